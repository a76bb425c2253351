/- show.within and show.text. show.Print, and the walk of the law ShowApart. The walk of the law ReadBack. The walk of the law ReadAgain. -/
import Derived.Test.YtndhbdbfjkmloaaDoorJReadBack16
import Derived.Test.YtndhbdbfjkmloaaDoorJReadBack15
namespace Go.Proofs.YtndhbdbfjkmloaaDoor
open Go.RowKit

theorem str_app2 (a b : List UInt8) : (⟨a.toArray⟩ : ByteArray) ++ ⟨b.toArray⟩ = ⟨(a ++ b).toArray⟩ := by
  apply ByteArray.ext
  simp
theorem to_bytes {u : ByteArray} {l : List UInt8} (h : u.data.toList = l) : u = ⟨l.toArray⟩ := by
  rw [← h, text_back]
/-- what text answers -/
def DoesT (e : Ex) : Prop := ∀ (k a b c d : Int) (t : ByteArray) (ks : List Ex) (A : Option Addr) (cp : Nat) (w : World), e = .mk k a b c d t ks → ExIs w w.heap.size e (exCells k a b c d t A ks.length cp) → TabAt w →
  Calls Tryd.prog 28 #[.agg #[.int .i64 k, .int .u64 a, .int .u64 b, .int .u64 c, .int .u64 d, .string t, .slice A ks.length cp]] w fun r w' => r = .returned (.string ⟨(txE e).toArray⟩) ∧ Below w.heap.size w w'
set_option maxRecDepth 100000 in
set_option maxHeartbeats 4000000 in
theorem within_any2 {e : Ex} (hT : DoesT e) (hlen : (txE e).length ≤ 1000000) (least : Nat) (k a b c d : Int) (t : ByteArray) (ks : List Ex) (A : Option Addr) (cp : Nat) (w : World) (he : e = .mk k a b c d t ks) (hx : ExIs w w.heap.size e (exCells k a b c d t A ks.length cp)) (hTab : TabAt w) :
    Calls Tryd.prog 58 #[.agg #[.int .i64 k, .int .u64 a, .int .u64 b, .int .u64 c, .int .u64 d, .string t, .slice A ks.length cp], .int .i64 (least : Int)] w fun r w' => r = .returned (.string ⟨(brk e least (txE e)).toArray⟩) ∧ Below w.heap.size w w' := by
  have HT := Lib.hid (fun W (hW : Below w.heap.size w W) => hT k a b c d t ks A cp W he (hx.grow hW) (hTab.below hW hTab.pos))
  have hbx : Blk (w.alloc (.cells #[.int .i64 k, .int .u64 a, .int .u64 b, .int .u64 c, .int .u64 d, .string t, .slice A ks.length cp] 27)) w.heap.size 27 #[.int .i64 k, .int .u64 a, .int .u64 b, .int .u64 c, .int .u64 d, .string t, .slice A ks.length cp] := blk_at rfl
  have hbw : Below w.heap.size w (w.alloc (.cells #[.int .i64 k, .int .u64 a, .int .u64 b, .int .u64 c, .int .u64 d, .string t, .slice A ks.length cp] 27)) := (by repeat (first | exact Below.refl _ _ | assumption | refine Below.drew ?_ | refine below_drewN ?_ _ | refine Below.alloc ?_ (by first | omega | (simp; omega) | simp) _ | refine Below.setCell ?_ (by first | omega | (simp; omega) | simp) _))
  have HLV := Lib.hid (fun W => level_any k a b c d t A ks.length cp W)
  have HK : Hid (brk e least (txE e) = if lvl k < least then 40 :: (txE e ++ [41]) else txE e) := by
    show _ = _
    rw [he]
    rfl
  generalize brk e least (txE e) = B at HK ⊢
  generalize txE e = T at HT HK hlen
  generalize lvl k = v at HLV HK
  clear he hx hTab hT
  go_enter Tryd.func58, Tryd.ntmps58
  go_wp2_with fail
  refine (HT.out _ hbw).mono ?_
  rintro r w1 ⟨rfl, hb1'⟩
  have hb1 := hbw.trans (hb1'.mono hbw.size)
  have hbx1 := hbx.below hb1' (by simp)
  have x0 := hbx1.cell 0
  have x1 := hbx1.cell 1
  have x2 := hbx1.cell 2
  have x3 := hbx1.cell 3
  have x4 := hbx1.cell 4
  have x5 := hbx1.cell 5
  have x6 := hbx1.cell 6
  clear hb1' hbx hbx1
  go_wp2_with fail
  refine (HLV.out _).mono ?_
  rintro r w2 ⟨rfl, hb2⟩
  have hb := hb1.trans (hb2.mono hb1.size)
  have n1 : ¬ 9223372036854775807 < 1 + T.length := by omega
  have n2 : ¬ 9223372036854775807 < 1 + T.length + 1 := by omega
  by_cases hlt : v < least
  · have hK : B = 40 :: (T ++ [41]) := by rw [HK.out, if_pos hlt]
    go_wp2
    go_ret
    exact ⟨by rw [hK, show (40 :: (T ++ [41]) : List UInt8) = ([40] ++ T) ++ [41] from rfl, ← str_app2, ← str_app2]; rfl, hb⟩
  · have hK : B = T := by rw [HK.out, if_neg hlt]
    go_wp2
    go_ret
    exact ⟨by rw [hK]; rfl, hb⟩

def strX (l : List (List UInt8)) : List Value := l.map fun x => .string ⟨x.toArray⟩
theorem str_infoX : (Tryd.prog.info? 9).map (fun i => (i.zero, i.size, i.bytes)) = some (some (.string ByteArray.empty), 1, 16) := by kernel_rfl
theorem cell_atX {w : World} {g k : Nat} : w.cell? ((⟨g, 0, none⟩ : Addr).add k) = w.cell? ⟨g, 0 + k, none⟩ := by
  cases k with
  | zero => rfl
  | succ k => simp [Addr.add]
theorem rangeF : rangeL 0 256 = [18446744073709551615, 18446744073709551615, 18446744073709551615, 18446744073709551615] := by decide +kernel
theorem full_any (w : World) : Calls Tryd.prog 56 #[.int .i64 0, .int .i64 255] w fun e w' => e = .returned (.agg #[.int .u64 wM, .int .u64 wM, .int .u64 wM, .int .u64 wM]) ∧ Below w.heap.size w w' := by
  refine (range_any 0 255 w (by unfold I64; omega) (by unfold I64; omega) 0 256 (.inl ⟨by omega, rfl⟩) (by decide)).mono fun e w' ⟨h, hb⟩ => ⟨?_, hb⟩
  rw [h, rangeF]
  rfl
theorem nodes_mem {e : Ex} : ∀ {ks : List Ex}, e ∈ ks → nodes e ≤ nodesAll ks
  | _ :: _, .head _ => by rw [nodesAll]; omega
  | _ :: _, .tail _ h => by rw [nodesAll]; have := nodes_mem h; omega
set_option maxRecDepth 100000 in
set_option maxHeartbeats 8000000 in
theorem text_any (e : Ex) : Rtx e → nodes e ≤ 60 → DoesT e := by
  induction e using Ex.ind with
  | h k a b c d t ks ih =>
    intro hR hn k' a' b' c' d' t' ks' A cp w he hx hTab
    injection he with e1 e2 e3 e4 e5 e6 e7
    subst e1 e2 e3 e4 e5 e6 e7
    have hlen := tx_len _ hR
    have hL : (txE (.mk k a b c d t ks)).length ≤ 200000 := by omega
    cases hR with
    | mk _ _ _ _ _ _ _ hf ha hb hc hd hks =>
    have hpos := hTab.pos
    have htz := hx.len.1
    have hmx := hx.len.2.2.2.1
    have hmn := hx.len.2.2.1
    obtain ⟨T, hT⟩ : ∃ T, T = txE (.mk k a b c d t ks) := ⟨_, rfl⟩
    rw [← hT] at hL ⊢
    rw [txE] at hT
    have hbw : Below w.heap.size w (w.alloc (.cells #[.int .i64 k, .int .u64 a, .int .u64 b, .int .u64 c, .int .u64 d, .string t, .slice A ks.length cp] 27)) := (by repeat (first | exact Below.refl _ _ | assumption | refine Below.drew ?_ | refine below_drewN ?_ _ | refine Below.alloc ?_ (by first | omega | (simp; omega) | simp) _ | refine Below.setCell ?_ (by first | omega | (simp; omega) | simp) _))
    have hbx : Blk (w.alloc (.cells #[.int .i64 k, .int .u64 a, .int .u64 b, .int .u64 c, .int .u64 d, .string t, .slice A ks.length cp] 27)) w.heap.size 27 #[.int .i64 k, .int .u64 a, .int .u64 b, .int .u64 c, .int .u64 d, .string t, .slice A ks.length cp] := blk_at rfl
    have x0 := hbx.cell 0
    have x1 := hbx.cell 1
    have x2 := hbx.cell 2
    have x3 := hbx.cell 3
    have x4 := hbx.cell 4
    have x5 := hbx.cell 5
    have x6 := hbx.cell 6
    rcases fit_what hf with ⟨rfl, hz⟩ | ⟨rfl, hz⟩ | ⟨rfl, ht, hz⟩ | ⟨rfl, ht, hz⟩ | ⟨hk, hz1, hz, hn2, hn8⟩ | ⟨hk, hz1, hz, hn1⟩
    · rw [if_pos rfl] at hT
      have HT := Lib.hid hT
      clear hT ih hks hx hz
      go_enter Tryd.func28, Tryd.ntmps28
      go_wp2
      go_ret
      exact ⟨by rw [HT.out]; rfl, hbw⟩
    · rw [if_neg (by decide), if_pos rfl] at hT
      obtain ⟨q, hq⟩ : ∃ q, (a == wM && (b == wM && (c == wM && d == wM))) = q := ⟨_, rfl⟩
      have hsm := fun W => run_same_set W a b c d wM wM wM wM
      rw [hq] at hsm
      obtain ⟨hwd, hes⟩ := words_of ha hb hc hd
      have HCL := Lib.hid (fun W hT => class_any [a.toNat, b.toNat, c.toNat, d.toNat] hwd W hT)
      have hvv : vals [a.toNat, b.toNat, c.toNat, d.toNat] = .agg #[.int .u64 a, .int .u64 b, .int .u64 c, .int .u64 d] := by
        unfold vals
        simp [Int.toNat_of_nonneg ha.1, Int.toNat_of_nonneg hb.1, Int.toNat_of_nonneg hc.1, Int.toNat_of_nonneg hd.1]
      rw [hvv] at HCL
      have hq3 : (q = true ∧ T = [46]) ∨ (q = false ∧ T = clsAll [a.toNat, b.toNat, c.toNat, d.toNat]) := by
        by_cases hF : a = wM ∧ b = wM ∧ c = wM ∧ d = wM
        · rw [if_pos hF] at hT
          refine .inl ⟨?_, hT⟩
          rw [← hq, hF.1, hF.2.1, hF.2.2.1, hF.2.2.2]
          rfl
        · rw [if_neg hF] at hT
          refine .inr ⟨?_, hT⟩
          cases hb : q with
          | false => rfl
          | true =>
            rw [hb] at hq
            simp only [Bool.and_eq_true, beq_iff_eq] at hq
            exact absurd ⟨hq.1, hq.2.1, hq.2.2.1, hq.2.2.2⟩ hF
      have HT := Lib.hid hq3
      have HFA := Lib.hid (fun W => full_any W)
      generalize wM = M at hsm HFA
      clear hT ih hks hx hz hq hq3 hvv
      go_enter Tryd.func28, Tryd.ntmps28
      go_wp2_with fail
      refine wp_region_q (fun W => Below w.heap.size w W ∧ Blk W w.heap.size 27 #[.int .i64 2, .int .u64 a, .int .u64 b, .int .u64 c, .int .u64 d, .string t, .slice A ks.length cp]) (by kernel_rfl) (by kernel_rfl) ⟨hbw.drew, hbx.drew⟩ ?_
      repeat
        (first | ((with_reducible apply QW.free rfl); · (intro W hW; obtain ⟨q1, q2⟩ := hW; have g1 := q2.cell 1; have g2 := q2.cell 2; have g3 := q2.cell 3; have g4 := q2.cell 4; go_simp; first | (go_at_call 56; refine (HFA.out _).mono ?_; rintro e w' ⟨rfl, hbb⟩; exact ⟨rfl, q1.trans (hbb.mono q1.size), q2.below hbb q2.lt⟩) | rfl | exact hsm _)) | ((with_reducible apply QW.skip rfl); · (first | exact ⟨_, _, rfl, rfl, .inl rfl⟩ | exact ⟨_, _, rfl, rfl, .inr rfl⟩)) | ((with_reducible apply QW.take rfl); (· exact ⟨_, rfl, rfl⟩); (· (intro W hW; obtain ⟨q1, q2⟩ := hW; have g1 := q2.cell 1; have g2 := q2.cell 2; have g3 := q2.cell 3; have g4 := q2.cell 4; go_simp; first | (go_at_call 56; refine (HFA.out _).mono ?_; rintro e w' ⟨rfl, hbb⟩; exact ⟨rfl, q1.trans (hbb.mono q1.size), q2.below hbb q2.lt⟩) | rfl | exact hsm _)))); (try simp only [Act.put, List.setIfInBounds_toArray, List.set_cons_zero, List.set_cons_succ])
      refine QW.nil ?_
      rintro w1 ⟨q1, q2⟩
      have g1 := q2.cell 1
      have g2 := q2.cell 2
      have g3 := q2.cell 3
      have g4 := q2.cell 4
      rcases HT.out with ⟨rfl, rfl⟩ | ⟨rfl, hT⟩
      · go_wp2
        go_ret
        exact ⟨rfl, q1⟩
      · have HT2 := Lib.hid hT
        clear hT
        go_wp2_with fail
        refine (HCL.out _ (hTab.below q1 hpos)).mono ?_
        rintro r w2 ⟨⟨u, rfl, hu⟩, hb2⟩
        have hu' := to_bytes hu
        go_wp2
        go_ret
        exact ⟨by rw [HT2.out]; first | rfl | (rw [hu']; rfl), q1.trans (hb2.mono q1.size)⟩
    · rw [if_neg (by decide), if_neg (by decide), if_pos rfl] at hT
      have HT := Lib.hid hT
      have HLT := Lib.hid (fun W => lit_any t W (by have := size_list t; have := ht.2; omega))
      clear hT ih hks hx hz
      go_enter Tryd.func28, Tryd.ntmps28
      go_wp2_with fail
      refine (HLT.out _).mono ?_
      rintro r w1 ⟨⟨u, rfl, hu⟩, hb1⟩
      have hu' := to_bytes hu
      go_wp2
      go_ret
      exact ⟨by rw [HT.out]; first | rfl | (rw [hu']; rfl), hbw.trans (hb1.mono hbw.size)⟩
    · rw [if_neg (by decide), if_neg (by decide), if_neg (by decide), if_pos rfl] at hT
      have HT := Lib.hid hT
      clear hT ih hks hx hz ht
      go_enter Tryd.func28, Tryd.ntmps28
      go_wp2
      go_ret
      exact ⟨by rw [HT.out, text_back]; rfl, hbw⟩
    · have hnk : nodesAll ks ≤ 59 := by
        rw [nodes] at hn
        omega
      have IH := Lib.hid (fun e (he : e ∈ ks) => ih e he (hks e he) (Nat.le_trans (nodes_mem he) (by omega)))
      have HKL := Lib.hid (fun e (he : e ∈ ks) => tx_len e (hks e he))
      have HX := Lib.hid hx
      have HNM := Lib.hid (fun e (he : e ∈ ks) => nodes_mem he)
      obtain ⟨i0, hi0, hz0', hz1', hz2'⟩ := info_parts str_infoX
      unfold maxLen at hmx
      rcases hk with rfl | rfl
      · skip
        simp only [Int.reduceEq, if_false] at hT
        have HT := Lib.hid hT
        have HJL := Lib.hid (join_txL 3 [32] (by decide) ks HKL.out)
        clear hT ih hks hx hz hz1
        go_enter Tryd.func28, Tryd.ntmps28
        go_wp2
        go_loopw [5, 7, 76] (fun v _ i wr => ∃ j : Nat, j ≤ ks.length ∧ i = .int .i64 j ∧ (∃ V vp, v = .slice V j vp ∧ Hid (wr.ownsRow (w.heap.size + 1) 9 1 (.slice V j vp) j (strX (txL 3 (ks.take j))))) ∧ Below w.heap.size w wr ∧ w.heap.size + 1 ≤ wr.heap.size) (fun _ _ i _ => ks.length - (intOf i).toNat)
        case atStart => exact ⟨0, by omega, rfl, ⟨none, 0, rfl, ⟨rfl, .inl ⟨rfl, rfl⟩⟩⟩, hbw, by simp⟩
        case round =>
          obtain ⟨j, hj, rfl, ⟨V, vp, rfl, HOWN⟩, hwr, hws⟩ := hrel
          by_cases hjk : j < ks.length
          · have HD : Hid (ks.take (j + 1) = ks.take j ++ [ks[j]]) := by
              show _ = _
              exact take_succ_of (List.getElem?_eq_getElem hjk)
            obtain ⟨ad, k1, a1, b1, c1, d1, t1, ks1, A1, cp1, rfl, hab, hej, hx1, hS⟩ := HX.out.kid (j := j) hjk
            have hmem := List.mem_of_getElem? hej
            have hk1 := fun (q : Addr) (hq : q.block = (ad.add (j * 7)).block) => hwr.cell (p := q) (by rw [hq, add_block]; exact hab)
            have y0 := (hk1 _ rfl).trans hS.c0
            have y1 := (hk1 ⟨_, _, none⟩ rfl).trans hS.c1
            have y2 := (hk1 ⟨_, _, none⟩ rfl).trans hS.c2
            have y3 := (hk1 ⟨_, _, none⟩ rfl).trans hS.c3
            have y4 := (hk1 ⟨_, _, none⟩ rfl).trans hS.c4
            have y5 := (hk1 ⟨_, _, none⟩ rfl).trans hS.c5
            have y6 := (hk1 ⟨_, _, none⟩ rfl).trans hS.c6
            have hl1 := HKL.out _ hmem
            have hnm := HNM.out _ hmem
            have HCall := Lib.hid (fun W (hW : Below w.heap.size w W) => within_any2 (IH.out _ hmem) (by omega) 3 k1 a1 b1 c1 d1 t1 ks1 A1 cp1 W rfl (hx1.grow hW) (hTab.below hW hpos))
            rw [show ((3 : Nat) : Int) = 3 from rfl] at HCall
            have HSN : Hid (strX (txL 3 (ks.take (j + 1))) = strX (txL 3 (ks.take j)) ++ [.string ⟨(brk (.mk k1 a1 b1 c1 d1 t1 ks1) 3 (txE (.mk k1 a1 b1 c1 d1 t1 ks1))).toArray⟩]) := by
              show _ = _
              have hej2 : ks[j] = .mk k1 a1 b1 c1 d1 t1 ks1 := by rw [List.getElem?_eq_getElem hjk] at hej; exact Option.some.inj hej
              rw [HD.out, txL_map, txL_map, hej2]
              unfold strX
              simp
            have hbl := brk_len (.mk k1 a1 b1 c1 d1 t1 ks1) 3 (txE (.mk k1 a1 b1 c1 d1 t1 ks1))
            generalize brk (.mk k1 a1 b1 c1 d1 t1 ks1) 3 (txE (.mk k1 a1 b1 c1 d1 t1 ks1)) = F at HCall HSN hbl
            have hj0 : (0 : Int) ≤ (j : Int) := by omega
            have hj1 : (j : Int) < (ks.length : Int) := by omega
            clear hS hx1 HD hk1 hej hmem
            have hwo := hwr.alloc hwr.size (.cells #[.int .i64 k1, .int .u64 a1, .int .u64 b1, .int .u64 c1, .int .u64 d1, .string t1, .slice A1 ks1.length cp1] 27)
            go_wp2_with fail
            refine (HCall.out _ hwo).mono ?_
            rintro e w2 ⟨rfl, hb2⟩
            have hw2 : Below w.heap.size w w2 := hwo.trans (hb2.mono hwo.size)
            have hs2 := hb2.size
            have hsa : (wr.alloc (.cells #[.int .i64 k1, .int .u64 a1, .int .u64 b1, .int .u64 c1, .int .u64 d1, .string t1, .slice A1 ks1.length cp1] 27)).heap.size = wr.heap.size + 1 := by simp
            rw [hsa] at hs2
            have hown3 := own_below (HOWN.out.alloc _) hb2
            have hsw := hw2.size
            clear hb2 HOWN hsa
            go_wp2_with (at_builtin; refine wpList_append_lies _ rfl _ _ _ rfl (w.heap.size + 1) 9 i0 _ 1 16 Tryd.underlying74 hi0 hz0' hz1' hz2' rfl (by omega) (.slice V j vp) j _ rfl (hown3.alloc _) ⟨w2.heap.size, 0, none⟩ 1 1 [.string ⟨F.toArray⟩] rfl rfl (World.news_of_block (cs := #[.string ⟨F.toArray⟩]) (t := 9) (fr := (0, 0)) (heap_alloc_new w2 _)) (by intro u hu; simp at hu; subst hu; rfl) (by omega) (by unfold maxLen; omega) (by omega) (by simp; omega) _ rfl ?_; intro g3 cap w3 hown4 hgrow hat hlt)
            go_roundw
            case rel =>
              refine ⟨j + 1, by omega, by go_num, ⟨_, cap, rfl, ?_⟩, below_app (hw2.alloc hsw _) (hown3.alloc _) hgrow (by simp; omega) (by omega), by have := hgrow.size; simp at this; omega⟩
              show World.ownsRow _ _ _ _ _ _ _
              rw [HSN.out]
              exact hown4
            case measure => simp [intOf]; omega
          · obtain rfl : j = ks.length := by omega
            have hta : ks.take ks.length = ks := List.take_length
            rw [hta] at HOWN
            obtain ⟨g, cq, hv, hgb, hgl⟩ := HOWN.out.form (by omega)
            simp only [Value.slice.injEq, true_and] at hv
            obtain ⟨rfl, rfl⟩ := hv
            have hcap : ks.length ≤ vp := by
              rcases HOWN.out.2 with ⟨e, e2⟩ | ⟨g', c', cur, e, _, _, e1, e2, _⟩
              · cases e
              · simp only [Value.slice.injEq] at e
                rw [e.2.2]
                exact e1
            have hxl : ((txL 3 ks).map fun x => (⟨x.toArray⟩ : ByteArray)).length = ks.length := by rw [List.length_map, txL_len]
            have hmm : (((txL 3 ks).map fun x => (⟨x.toArray⟩ : ByteArray)).map (·.data.toList)) = txL 3 ks := by simp [List.map_map, Function.comp_def]
            have hjl := HJL.out
            have HJ := sh_strings_Join g 0 vp ((txL 3 ks).map fun x => (⟨x.toArray⟩ : ByteArray)) ⟨#[32]⟩ wr (fun k x hx => by
              have := HOWN.out.cells (g := g) rfl k (.string x) (by unfold strX; rw [List.getElem?_map] at hx ⊢; rw [Option.map_eq_some_iff] at hx ⊢; obtain ⟨y, h1, rfl⟩ := hx; exact ⟨y, h1, rfl⟩)
              rwa [cell_atX] at this) hgl (by omega) (by omega) (by rw [hmm]; show (Lib.join (txL 3 ks) [32]).length ≤ _; omega)
            rw [hxl, hmm] at HJ
            have hsp : (ByteArray.mk #[32]).data.toList = [32] := rfl
            rw [hsp] at HJ
            generalize Lib.join (txL 3 ks) [32] = JJ at HJ HT hjl
            replace HJ := Lib.hid HJ
            clear hxl hmm hjl hsp
            go_wp2_with fail
            refine (HJ.out).mono ?_
            rintro e w2 ⟨rfl, hb2⟩
            go_wp2
            go_ret
            exact ⟨by rw [HT.out]; rfl, hwr.trans (hb2.mono hwr.size)⟩
      · skip
        simp only [Int.reduceEq, if_false, if_true] at hT
        have HT := Lib.hid hT
        have HJL := Lib.hid (join_txL 2 [32, 47, 32] (by decide) ks HKL.out)
        clear hT ih hks hx hz hz1
        go_enter Tryd.func28, Tryd.ntmps28
        go_wp2
        go_loopw [5, 7, 76] (fun v _ i wr => ∃ j : Nat, j ≤ ks.length ∧ i = .int .i64 j ∧ (∃ V vp, v = .slice V j vp ∧ Hid (wr.ownsRow (w.heap.size + 1) 9 1 (.slice V j vp) j (strX (txL 2 (ks.take j))))) ∧ Below w.heap.size w wr ∧ w.heap.size + 1 ≤ wr.heap.size) (fun _ _ i _ => ks.length - (intOf i).toNat)
        case atStart => exact ⟨0, by omega, rfl, ⟨none, 0, rfl, ⟨rfl, .inl ⟨rfl, rfl⟩⟩⟩, hbw, by simp⟩
        case round =>
          obtain ⟨j, hj, rfl, ⟨V, vp, rfl, HOWN⟩, hwr, hws⟩ := hrel
          by_cases hjk : j < ks.length
          · have HD : Hid (ks.take (j + 1) = ks.take j ++ [ks[j]]) := by
              show _ = _
              exact take_succ_of (List.getElem?_eq_getElem hjk)
            obtain ⟨ad, k1, a1, b1, c1, d1, t1, ks1, A1, cp1, rfl, hab, hej, hx1, hS⟩ := HX.out.kid (j := j) hjk
            have hmem := List.mem_of_getElem? hej
            have hk1 := fun (q : Addr) (hq : q.block = (ad.add (j * 7)).block) => hwr.cell (p := q) (by rw [hq, add_block]; exact hab)
            have y0 := (hk1 _ rfl).trans hS.c0
            have y1 := (hk1 ⟨_, _, none⟩ rfl).trans hS.c1
            have y2 := (hk1 ⟨_, _, none⟩ rfl).trans hS.c2
            have y3 := (hk1 ⟨_, _, none⟩ rfl).trans hS.c3
            have y4 := (hk1 ⟨_, _, none⟩ rfl).trans hS.c4
            have y5 := (hk1 ⟨_, _, none⟩ rfl).trans hS.c5
            have y6 := (hk1 ⟨_, _, none⟩ rfl).trans hS.c6
            have hl1 := HKL.out _ hmem
            have hnm := HNM.out _ hmem
            have HCall := Lib.hid (fun W (hW : Below w.heap.size w W) => within_any2 (IH.out _ hmem) (by omega) 2 k1 a1 b1 c1 d1 t1 ks1 A1 cp1 W rfl (hx1.grow hW) (hTab.below hW hpos))
            rw [show ((2 : Nat) : Int) = 2 from rfl] at HCall
            have HSN : Hid (strX (txL 2 (ks.take (j + 1))) = strX (txL 2 (ks.take j)) ++ [.string ⟨(brk (.mk k1 a1 b1 c1 d1 t1 ks1) 2 (txE (.mk k1 a1 b1 c1 d1 t1 ks1))).toArray⟩]) := by
              show _ = _
              have hej2 : ks[j] = .mk k1 a1 b1 c1 d1 t1 ks1 := by rw [List.getElem?_eq_getElem hjk] at hej; exact Option.some.inj hej
              rw [HD.out, txL_map, txL_map, hej2]
              unfold strX
              simp
            have hbl := brk_len (.mk k1 a1 b1 c1 d1 t1 ks1) 2 (txE (.mk k1 a1 b1 c1 d1 t1 ks1))
            generalize brk (.mk k1 a1 b1 c1 d1 t1 ks1) 2 (txE (.mk k1 a1 b1 c1 d1 t1 ks1)) = F at HCall HSN hbl
            have hj0 : (0 : Int) ≤ (j : Int) := by omega
            have hj1 : (j : Int) < (ks.length : Int) := by omega
            clear hS hx1 HD hk1 hej hmem
            have hwo := hwr.alloc hwr.size (.cells #[.int .i64 k1, .int .u64 a1, .int .u64 b1, .int .u64 c1, .int .u64 d1, .string t1, .slice A1 ks1.length cp1] 27)
            go_wp2_with fail
            refine (HCall.out _ hwo).mono ?_
            rintro e w2 ⟨rfl, hb2⟩
            have hw2 : Below w.heap.size w w2 := hwo.trans (hb2.mono hwo.size)
            have hs2 := hb2.size
            have hsa : (wr.alloc (.cells #[.int .i64 k1, .int .u64 a1, .int .u64 b1, .int .u64 c1, .int .u64 d1, .string t1, .slice A1 ks1.length cp1] 27)).heap.size = wr.heap.size + 1 := by simp
            rw [hsa] at hs2
            have hown3 := own_below (HOWN.out.alloc _) hb2
            have hsw := hw2.size
            clear hb2 HOWN hsa
            go_wp2_with (at_builtin; refine wpList_append_lies _ rfl _ _ _ rfl (w.heap.size + 1) 9 i0 _ 1 16 Tryd.underlying74 hi0 hz0' hz1' hz2' rfl (by omega) (.slice V j vp) j _ rfl (hown3.alloc _) ⟨w2.heap.size, 0, none⟩ 1 1 [.string ⟨F.toArray⟩] rfl rfl (World.news_of_block (cs := #[.string ⟨F.toArray⟩]) (t := 9) (fr := (0, 0)) (heap_alloc_new w2 _)) (by intro u hu; simp at hu; subst hu; rfl) (by omega) (by unfold maxLen; omega) (by omega) (by simp; omega) _ rfl ?_; intro g3 cap w3 hown4 hgrow hat hlt)
            go_roundw
            case rel =>
              refine ⟨j + 1, by omega, by go_num, ⟨_, cap, rfl, ?_⟩, below_app (hw2.alloc hsw _) (hown3.alloc _) hgrow (by simp; omega) (by omega), by have := hgrow.size; simp at this; omega⟩
              show World.ownsRow _ _ _ _ _ _ _
              rw [HSN.out]
              exact hown4
            case measure => simp [intOf]; omega
          · obtain rfl : j = ks.length := by omega
            have hta : ks.take ks.length = ks := List.take_length
            rw [hta] at HOWN
            obtain ⟨g, cq, hv, hgb, hgl⟩ := HOWN.out.form (by omega)
            simp only [Value.slice.injEq, true_and] at hv
            obtain ⟨rfl, rfl⟩ := hv
            have hcap : ks.length ≤ vp := by
              rcases HOWN.out.2 with ⟨e, e2⟩ | ⟨g', c', cur, e, _, _, e1, e2, _⟩
              · cases e
              · simp only [Value.slice.injEq] at e
                rw [e.2.2]
                exact e1
            have hxl : ((txL 2 ks).map fun x => (⟨x.toArray⟩ : ByteArray)).length = ks.length := by rw [List.length_map, txL_len]
            have hmm : (((txL 2 ks).map fun x => (⟨x.toArray⟩ : ByteArray)).map (·.data.toList)) = txL 2 ks := by simp [List.map_map, Function.comp_def]
            have hjl := HJL.out
            have HJ := sh_strings_Join g 0 vp ((txL 2 ks).map fun x => (⟨x.toArray⟩ : ByteArray)) ⟨#[32, 47, 32]⟩ wr (fun k x hx => by
              have := HOWN.out.cells (g := g) rfl k (.string x) (by unfold strX; rw [List.getElem?_map] at hx ⊢; rw [Option.map_eq_some_iff] at hx ⊢; obtain ⟨y, h1, rfl⟩ := hx; exact ⟨y, h1, rfl⟩)
              rwa [cell_atX] at this) hgl (by omega) (by omega) (by rw [hmm]; show (Lib.join (txL 2 ks) [32, 47, 32]).length ≤ _; omega)
            rw [hxl, hmm] at HJ
            have hsp : (ByteArray.mk #[32, 47, 32]).data.toList = [32, 47, 32] := rfl
            rw [hsp] at HJ
            generalize Lib.join (txL 2 ks) [32, 47, 32] = JJ at HJ HT hjl
            replace HJ := Lib.hid HJ
            clear hxl hmm hjl hsp
            go_wp2_with fail
            refine (HJ.out).mono ?_
            rintro e w2 ⟨rfl, hb2⟩
            go_wp2
            go_ret
            exact ⟨by rw [HT.out]; rfl, hwr.trans (hb2.mono hwr.size)⟩
    · obtain ⟨e0, rfl⟩ : ∃ e0, ks = [e0] := by
        match ks, hn1 with
        | [e0], _ => exact ⟨e0, rfl⟩
      obtain ⟨ad, k1, a1, b1, c1, d1, t1, ks1, A1, cp1, rfl, hab, hej, hx1, hS⟩ := hx.kid (j := 0) (by simp)
      have he0 : e0 = .mk k1 a1 b1 c1 d1 t1 ks1 := by simpa using hej
      subst he0
      simp only [List.length_singleton] at hbw hbx x0 x1 x2 x3 x4 x5 x6 ⊢
      have hn0 : nodes (.mk k1 a1 b1 c1 d1 t1 ks1) ≤ 60 := by
        rw [nodes, nodesAll, nodesAll] at hn
        omega
      have hR1 := hks _ (.head _)
      have HD := Lib.hid (ih _ (.head _) hR1 hn0)
      have hl1 := tx_len _ hR1
      have HW := Lib.hid (fun W least (hW : Below w.heap.size w W) => within_any2 HD.out (by omega) least k1 a1 b1 c1 d1 t1 ks1 A1 cp1 W rfl (hx1.grow hW) (hTab.below hW hpos))
      have hbl := fun least => brk_len (.mk k1 a1 b1 c1 d1 t1 ks1) least (txE (.mk k1 a1 b1 c1 d1 t1 ks1))
      replace hS : Seven w ad k1 a1 b1 c1 d1 t1 A1 ks1.length cp1 := hS
      have hk1 := fun (q : Addr) (hq : q.block = ad.block) => hbw.cell (p := q) (by rw [hq]; exact hab)
      have y0 := (hk1 _ rfl).trans hS.c0
      have y1 := (hk1 ⟨_, _, none⟩ rfl).trans hS.c1
      have y2 := (hk1 ⟨_, _, none⟩ rfl).trans hS.c2
      have y3 := (hk1 ⟨_, _, none⟩ rfl).trans hS.c3
      have y4 := (hk1 ⟨_, _, none⟩ rfl).trans hS.c4
      have y5 := (hk1 ⟨_, _, none⟩ rfl).trans hS.c5
      have y6 := (hk1 ⟨_, _, none⟩ rfl).trans hS.c6
      rcases (show k = 7 ∨ k = 8 ∨ k = 9 ∨ k = 10 ∨ k = 11 by omega) with rfl | rfl | rfl | rfl | rfl
      · skip
        simp only [Int.reduceEq, if_false, if_true, txL, flat_one] at hT
        have HT := Lib.hid hT
        have hbl4 := hbl 4
        have HW4 := Lib.hid (fun W hW => HW.out W 4 hW)
        rw [show ((4 : Nat) : Int) = 4 from rfl] at HW4
        generalize brk (.mk k1 a1 b1 c1 d1 t1 ks1) 4 (txE (.mk k1 a1 b1 c1 d1 t1 ks1)) = S at HT HW4 hbl4
        clear hT ih hks hx hz hz1 HW hx1 hS hk1
        go_enter Tryd.func28, Tryd.ntmps28
        go_wp2_with fail
        refine (HW4.out _ hbw).mono ?_
        rintro r w1 ⟨rfl, hb1⟩
        have n1 : ¬ 9223372036854775807 < S.length + 1 := by omega
        go_wp2
        go_ret
        exact ⟨by rw [HT.out, ← str_app2]; rfl, hbw.trans (hb1.mono hbw.size)⟩
      · skip
        simp only [Int.reduceEq, if_false, if_true, txL, flat_one] at hT
        have HT := Lib.hid hT
        have hbl4 := hbl 4
        have HW4 := Lib.hid (fun W hW => HW.out W 4 hW)
        rw [show ((4 : Nat) : Int) = 4 from rfl] at HW4
        generalize brk (.mk k1 a1 b1 c1 d1 t1 ks1) 4 (txE (.mk k1 a1 b1 c1 d1 t1 ks1)) = S at HT HW4 hbl4
        clear hT ih hks hx hz hz1 HW hx1 hS hk1
        go_enter Tryd.func28, Tryd.ntmps28
        go_wp2_with fail
        refine (HW4.out _ hbw).mono ?_
        rintro r w1 ⟨rfl, hb1⟩
        have n1 : ¬ 9223372036854775807 < S.length + 1 := by omega
        go_wp2
        go_ret
        exact ⟨by rw [HT.out, ← str_app2]; rfl, hbw.trans (hb1.mono hbw.size)⟩
      · skip
        simp only [Int.reduceEq, if_false, if_true, txL, flat_one] at hT
        have HT := Lib.hid hT
        have hbl4 := hbl 4
        have HW4 := Lib.hid (fun W hW => HW.out W 4 hW)
        rw [show ((4 : Nat) : Int) = 4 from rfl] at HW4
        generalize brk (.mk k1 a1 b1 c1 d1 t1 ks1) 4 (txE (.mk k1 a1 b1 c1 d1 t1 ks1)) = S at HT HW4 hbl4
        clear hT ih hks hx hz hz1 HW hx1 hS hk1
        go_enter Tryd.func28, Tryd.ntmps28
        go_wp2_with fail
        refine (HW4.out _ hbw).mono ?_
        rintro r w1 ⟨rfl, hb1⟩
        have n1 : ¬ 9223372036854775807 < S.length + 1 := by omega
        go_wp2
        go_ret
        exact ⟨by rw [HT.out, ← str_app2]; rfl, hbw.trans (hb1.mono hbw.size)⟩
      · skip
        simp only [Int.reduceEq, if_false, if_true, txL, flat_one] at hT
        have HT := Lib.hid hT
        have hbl3 := hbl 3
        have HW3 := Lib.hid (fun W hW => HW.out W 3 hW)
        rw [show ((3 : Nat) : Int) = 3 from rfl] at HW3
        generalize brk (.mk k1 a1 b1 c1 d1 t1 ks1) 3 (txE (.mk k1 a1 b1 c1 d1 t1 ks1)) = S at HT HW3 hbl3
        clear hT ih hks hx hz hz1 HW hx1 hS hk1
        go_enter Tryd.func28, Tryd.ntmps28
        go_wp2_with fail
        refine (HW3.out _ hbw).mono ?_
        rintro r w1 ⟨rfl, hb1⟩
        have n1 : ¬ 9223372036854775807 < 1 + S.length := by omega
        go_wp2
        go_ret
        exact ⟨by rw [HT.out, show (38 :: S : List UInt8) = [38] ++ S from rfl, ← str_app2]; rfl, hbw.trans (hb1.mono hbw.size)⟩
      · skip
        simp only [Int.reduceEq, if_false, if_true, txL, flat_one] at hT
        have HT := Lib.hid hT
        have hbl3 := hbl 3
        have HW3 := Lib.hid (fun W hW => HW.out W 3 hW)
        rw [show ((3 : Nat) : Int) = 3 from rfl] at HW3
        generalize brk (.mk k1 a1 b1 c1 d1 t1 ks1) 3 (txE (.mk k1 a1 b1 c1 d1 t1 ks1)) = S at HT HW3 hbl3
        clear hT ih hks hx hz hz1 HW hx1 hS hk1
        go_enter Tryd.func28, Tryd.ntmps28
        go_wp2_with fail
        refine (HW3.out _ hbw).mono ?_
        rintro r w1 ⟨rfl, hb1⟩
        have n1 : ¬ 9223372036854775807 < 1 + S.length := by omega
        go_wp2
        go_ret
        exact ⟨by rw [HT.out, show (33 :: S : List UInt8) = [33] ++ S from rfl, ← str_app2]; rfl, hbw.trans (hb1.mono hbw.size)⟩
end Go.Proofs.YtndhbdbfjkmloaaDoor
namespace Go.Proofs.YtndhbdbfjkmloaaDoor
open Go.RowKit

/-- what Print answers -/
def prT (e : Ex) : List UInt8 := if checkE e = 0 then txE e else []
def PrQ (e : Ex) (w : World) (r : Ending) (w' : World) : Prop := r = .returned (.tuple #[.string ⟨(prT e).toArray⟩, .int .i64 (checkE e)]) ∧ Below w.heap.size w w'
set_option maxRecDepth 100000 in
set_option maxHeartbeats 4000000 in
theorem print_any (e : Ex) (hw : WfE e) (k a b c d : Int) (t : ByteArray) (ks : List Ex) (A : Option Addr) (cp : Nat) (w : World) (he : e = .mk k a b c d t ks) (hx : ExIs w w.heap.size e (exCells k a b c d t A ks.length cp)) (hTab : TabAt w) :
    Calls Tryd.prog 12 #[.agg #[.int .i64 k, .int .u64 a, .int .u64 b, .int .u64 c, .int .u64 d, .string t, .slice A ks.length cp]] w (PrQ e w) := by
  have hbx : Blk (w.alloc (.cells #[.int .i64 k, .int .u64 a, .int .u64 b, .int .u64 c, .int .u64 d, .string t, .slice A ks.length cp] 27)) w.heap.size 27 #[.int .i64 k, .int .u64 a, .int .u64 b, .int .u64 c, .int .u64 d, .string t, .slice A ks.length cp] := blk_at rfl
  have hbw : Below w.heap.size w (w.alloc (.cells #[.int .i64 k, .int .u64 a, .int .u64 b, .int .u64 c, .int .u64 d, .string t, .slice A ks.length cp] 27)) := (by repeat (first | exact Below.refl _ _ | assumption | refine Below.drew ?_ | refine below_drewN ?_ _ | refine Below.alloc ?_ (by first | omega | (simp; omega) | simp) _ | refine Below.setCell ?_ (by first | omega | (simp; omega) | simp) _))
  have HCK := Lib.hid (fun W (hW : Below w.heap.size w W) => check_expr e _ W (hx.grow hW))
  have hpos := hTab.pos
  by_cases h0 : checkE e = 0
  · have HTX := Lib.hid (fun W (hW : Below w.heap.size w W) => text_any e (rt_of hw h0) (nodes_leX h0) k a b c d t ks A cp W he (hx.grow hW) (hTab.below hW hpos))
    have HQ : Hid (∀ w', Below w.heap.size w w' → PrQ e w (.returned (.tuple #[.string ⟨(txE e).toArray⟩, .int .i64 0])) w') := fun w' hb => ⟨by unfold prT; rw [if_pos h0, h0], hb⟩
    rw [h0] at HCK
    unfold exCells at HCK
    generalize PrQ e w = Q at HQ ⊢
    generalize txE e = T at HTX HQ
    clear he hx h0 hw
    go_enter Tryd.func12, Tryd.ntmps12
    go_wp2_with fail
    refine (HCK.out _ hbw).mono ?_
    rintro r w1 ⟨rfl, hb1'⟩
    have hb1 := hbw.trans (hb1'.mono hbw.size)
    have hbx1 := hbx.below hb1' (by simp)
    have x0 := hbx1.cell 0
    have x1 := hbx1.cell 1
    have x2 := hbx1.cell 2
    have x3 := hbx1.cell 3
    have x4 := hbx1.cell 4
    have x5 := hbx1.cell 5
    have x6 := hbx1.cell 6
    clear hb1' hbx hbx1
    go_wp2_with fail
    refine (HTX.out _ hb1).mono ?_
    rintro r w2 ⟨rfl, hb2⟩
    go_wp2
    exact HQ.out _ (hb1.trans (hb2.mono hb1.size))
  · have HQ : Hid (∀ w', Below w.heap.size w w' → PrQ e w (.returned (.tuple #[.string ⟨#[]⟩, .int .i64 (checkE e)])) w') := fun w' hb => ⟨by unfold prT; rw [if_neg h0], hb⟩
    unfold exCells at HCK
    generalize PrQ e w = Q at HQ ⊢
    generalize checkE e = x at HCK HQ h0
    have hx0 : (x != 0) = true := by rw [bne_iff_ne]; exact h0
    clear he hx h0 hw
    go_enter Tryd.func12, Tryd.ntmps12
    go_wp2_with fail
    refine (HCK.out _ hbw).mono ?_
    rintro r w1 ⟨rfl, hb1'⟩
    have hb1 := hbw.trans (hb1'.mono hbw.size)
    go_wp2
    exact HQ.out _ hb1
def refA : Ex := .mk 4 0 0 0 0 ⟨#[97]⟩ []
theorem refA_check : checkE refA = 0 := by decide +kernel
theorem refA_wf : WfE refA := .mk _ _ _ _ _ _ _ (by unfold I64; omega) (by unfold U64; omega) (by unfold U64; omega) (by unfold U64; omega) (by unfold U64; omega) (fun e he => by cases he)
theorem refA_text : prT refA = [97] := by decide +kernel
set_option maxRecDepth 100000 in
set_option maxHeartbeats 4000000 in
theorem walk_ShowApart (e f : Ex) (ce cf : List Value) (w : World) (he : ExIs w w.heap.size e ce) (hf : ExIs w w.heap.size f cf) (we : WfE e) (wf : WfE f) (hTab : TabAt w) :
    Calls Tryd.prog 3 #[.agg ce.toArray, .agg cf.toArray] w fun r w' => r = .returned (.bool true) ∧ Below w.heap.size w w' := by
  obtain ⟨k, a, b, c, d, t, ks, A, cp, rfl, rfl⟩ : ∃ k a b c d t ks A cp, e = .mk k a b c d t ks ∧ ce = exCells k a b c d t A ks.length cp := by
    cases he with
    | mk k a b c d t ks A cp => exact ⟨k, a, b, c, d, t, ks, A, cp, rfl, rfl⟩
  obtain ⟨k2, a2, b2, c2, d2, t2, ks2, A2, cp2, rfl, rfl⟩ : ∃ k a b c d t ks A cp, f = .mk k a b c d t ks ∧ cf = exCells k a b c d t A ks.length cp := by
    cases hf with
    | mk k a b c d t ks A cp => exact ⟨k, a, b, c, d, t, ks, A, cp, rfl, rfl⟩
  have hpos := hTab.pos
  have H0 := Lib.hid (fun W (hW : Below w.heap.size w W) => print_any refA refA_wf 4 0 0 0 0 ⟨#[97]⟩ [] none 0 W rfl (refE_is W ⟨#[97]⟩ (by decide)) (hTab.below hW hpos))
  have H1 := Lib.hid (fun W (hW : Below w.heap.size w W) => print_any (.mk k a b c d t ks) we k a b c d t ks A cp W rfl (he.grow hW) (hTab.below hW hpos))
  have H2 := Lib.hid (fun W (hW : Below w.heap.size w W) => print_any (.mk k2 a2 b2 c2 d2 t2 ks2) wf k2 a2 b2 c2 d2 t2 ks2 A2 cp2 W rfl (hf.grow hW) (hTab.below hW hpos))
  unfold exCells
  go_enter Tryd.func3, Tryd.ntmps3
  have hz0 : ((w.alloc (.cells #[.int .i64 k, .int .u64 a, .int .u64 b, .int .u64 c, .int .u64 d, .string t, .slice A ks.length cp] 27)).alloc (.cells #[.int .i64 k2, .int .u64 a2, .int .u64 b2, .int .u64 c2, .int .u64 d2, .string t2, .slice A2 ks2.length cp2] 27)).heap.size = w.heap.size + 1 + 1 := by simp
  have hbe : Blk ((w.alloc (.cells #[.int .i64 k, .int .u64 a, .int .u64 b, .int .u64 c, .int .u64 d, .string t, .slice A ks.length cp] 27)).alloc (.cells #[.int .i64 k2, .int .u64 a2, .int .u64 b2, .int .u64 c2, .int .u64 d2, .string t2, .slice A2 ks2.length cp2] 27)) w.heap.size 27 #[.int .i64 k, .int .u64 a, .int .u64 b, .int .u64 c, .int .u64 d, .string t, .slice A ks.length cp] := (blk_at rfl).alloc _
  have hbf : Blk ((w.alloc (.cells #[.int .i64 k, .int .u64 a, .int .u64 b, .int .u64 c, .int .u64 d, .string t, .slice A ks.length cp] 27)).alloc (.cells #[.int .i64 k2, .int .u64 a2, .int .u64 b2, .int .u64 c2, .int .u64 d2, .string t2, .slice A2 ks2.length cp2] 27)) (w.heap.size + 1) 27 #[.int .i64 k2, .int .u64 a2, .int .u64 b2, .int .u64 c2, .int .u64 d2, .string t2, .slice A2 ks2.length cp2] := blk_at (by simp)
  have hb0 : Below w.heap.size w ((w.alloc (.cells #[.int .i64 k, .int .u64 a, .int .u64 b, .int .u64 c, .int .u64 d, .string t, .slice A ks.length cp] 27)).alloc (.cells #[.int .i64 k2, .int .u64 a2, .int .u64 b2, .int .u64 c2, .int .u64 d2, .string t2, .slice A2 ks2.length cp2] 27)) := ((Below.refl _ _).alloc (Nat.le_refl _) _).alloc (by simp) _
  go_wp2_with fail
  refine (H0.out _ hb0).mono ?_
  rintro r w1 ⟨h, hb1'⟩
  rw [refA_text, refA_check] at h
  subst h
  have hb1 := hb0.trans (hb1'.mono (by omega))
  have hbe1 := hbe.below hb1' (by omega)
  have hbf1 := hbf.below hb1' (by omega)
  have hs1 := hb1'.size
  rw [hz0] at hs1
  have x0 := hbe1.cell 0
  have x1 := hbe1.cell 1
  have x2 := hbe1.cell 2
  have x3 := hbe1.cell 3
  have x4 := hbe1.cell 4
  have x5 := hbe1.cell 5
  have x6 := hbe1.cell 6
  clear hb1' hbe hbf hz0 hb0
  go_wp2_with fail
  refine (H1.out _ hb1).mono ?_
  rintro r w2 ⟨rfl, hb2'⟩
  have hb2 := hb1.trans (hb2'.mono (by omega))
  have hbe2 := hbe1.below hb2' (by omega)
  have hbf2 := hbf1.below hb2' (by omega)
  have hs2 := hb2'.size
  have y0 := hbf2.cell 0
  have y1 := hbf2.cell 1
  have y2 := hbf2.cell 2
  have y3 := hbf2.cell 3
  have y4 := hbf2.cell 4
  have y5 := hbf2.cell 5
  have y6 := hbf2.cell 6
  clear hb2' hbe1 hbf1 x0 x1 x2 x3 x4 x5 x6
  go_wp2_with fail
  refine (H2.out _ hb2).mono ?_
  rintro r w3 ⟨rfl, hb3'⟩
  have hb3 := hb2.trans (hb3'.mono (by omega))
  have hbe3 := hbe2.below hb3' (by omega)
  have hbf3 := hbf2.below hb3' (by omega)
  have HSX := Lib.hid (samex_any (.mk k a b c d t ks) _ _ _ w3 (he.grow hb3) (hf.grow hb3))
  have x0 := hbe3.cell 0
  have x1 := hbe3.cell 1
  have x2 := hbe3.cell 2
  have x3 := hbe3.cell 3
  have x4 := hbe3.cell 4
  have x5 := hbe3.cell 5
  have x6 := hbe3.cell 6
  have z0 := hbf3.cell 0
  have z1 := hbf3.cell 1
  have z2 := hbf3.cell 2
  have z3 := hbf3.cell 3
  have z4 := hbf3.cell 4
  have z5 := hbf3.cell 5
  have z6 := hbf3.cell 6
  clear hb3' hbe2 hbf2 y0 y1 y2 y3 y4 y5 y6 H0 H1 H2
  have HEQ : Hid (checkE (.mk k a b c d t ks) = 0 → checkE (.mk k2 a2 b2 c2 d2 t2 ks2) = 0 → ((⟨(prT (.mk k a b c d t ks)).toArray⟩ : ByteArray) = ⟨(prT (.mk k2 a2 b2 c2 d2 t2 ks2)).toArray⟩ ↔ (Ex.mk k a b c d t ks) = .mk k2 a2 b2 c2 d2 t2 ks2)) := fun h1 h2 => by
    unfold prT
    rw [if_pos h1, if_pos h2]
    refine ⟨fun h => tx_inj (rt_of we h1) (rt_of wf h2) ?_, fun h => by rw [h]⟩
    injection h with h
    have := congrArg Array.toList h
    simpa using this
  unfold exCells at HSX
  generalize (⟨(prT (.mk k a b c d t ks)).toArray⟩ : ByteArray) = S at HEQ ⊢
  generalize (⟨(prT (.mk k2 a2 b2 c2 d2 t2 ks2)).toArray⟩ : ByteArray) = S2 at HEQ ⊢
  generalize checkE (.mk k a b c d t ks) = cx at HEQ ⊢
  generalize checkE (.mk k2 a2 b2 c2 d2 t2 ks2) = cy at HEQ ⊢
  have HSM : Hid (cx = 0 → cy = 0 → (S.toList == S2.toList) = isB (Ex.mk k a b c d t ks = .mk k2 a2 b2 c2 d2 t2 ks2)) := fun h1 h2 => by
    rw [Bool.eq_iff_iff, isB_iff, beq_iff_eq, ByteArray.toList_eq, ByteArray.toList_eq, ← HEQ.out h1 h2]
    exact ⟨bytes_eq, fun h => by rw [h]⟩
  generalize isB (Ex.mk k a b c d t ks = .mk k2 a2 b2 c2 d2 t2 ks2) = sm at HSX HSM
  clear he hf we wf
  by_cases h1 : cx = 0
  · by_cases h2 : cy = 0
    · subst h1 h2
      have hsm := HSM.out rfl rfl
      go_wp2_with fail
      refine HSX.out.mono ?_
      rintro r w4 ⟨rfl, hb4⟩
      have hsb : (sm == sm) = true := beq_self_eq_true sm
      go_wp2
      go_ret
      exact ⟨rfl, hb3.trans (hb4.mono hb3.size)⟩
    · have hc2 : (cy != 0) = true := by rw [bne_iff_ne]; exact h2
      subst h1
      go_wp2
      go_ret
      exact ⟨rfl, hb3⟩
  · have hc1 : (cx != 0) = true := by rw [bne_iff_ne]; exact h1
    go_wp2
    go_ret
    exact ⟨rfl, hb3⟩
end Go.Proofs.YtndhbdbfjkmloaaDoor
namespace Go.Proofs.YtndhbdbfjkmloaaDoor
open Go.RowKit

theorem rtx_leaf {k : Int} {t : ByteArray} (h : fitB k 0 0 0 0 t.data.toList 0 = true) : Rtx (.mk k 0 0 0 0 t []) := .mk _ _ _ _ _ _ _ h (by unfold U64; omega) (by unfold U64; omega) (by unfold U64; omega) (by unfold U64; omega) (fun e he => by cases he)
/-- "a / b" -/
def altAB : Ex := .mk 6 0 0 0 0 ⟨#[]⟩ [.mk 4 0 0 0 0 ⟨#[97]⟩ [], .mk 4 0 0 0 0 ⟨#[98]⟩ []]
theorem altAB_rt : Rtx altAB := .mk _ _ _ _ _ _ _ (by decide +kernel) (by unfold U64; omega) (by unfold U64; omega) (by unfold U64; omega) (by unfold U64; omega) (fun e he => by
  rcases List.mem_cons.1 he with rfl | he
  · exact rtx_leaf (by decide +kernel)
  · rcases List.mem_cons.1 he with rfl | he
    · exact rtx_leaf (by decide +kernel)
    · cases he)
theorem altAB_text : txE altAB = [97, 32, 47, 32, 98] := by decide +kernel
theorem altAB_parse : ParseR [97, 32, 47, 32, 98] (some altAB) 0 0 := .ok altAB [] (by decide) (by rw [← altAB_text]; exact whole_print altAB_rt) (by decide +kernel)
theorem data_arr (l : List UInt8) : (⟨l.toArray⟩ : ByteArray).data.toList = l := by simp
/-- what was printed is read as it was -/
theorem parse_back {e : Ex} (hw : WfE e) (hc : checkE e = 0) (hl : (txE e).length ≤ 2000) : ParseR (txE e) (some e) 0 0 := .ok e [] hl (whole_print (rt_of hw hc)) hc
set_option maxRecDepth 100000 in
set_option maxHeartbeats 4000000 in
theorem walk_ReadBack (e : Ex) (ce : List Value) (w : World) (he : ExIs w w.heap.size e ce) (we : WfE e) (hTab : TabAt w) :
    Calls Tryd.prog 4 #[.agg ce.toArray] w fun r w' => r = .returned (.bool true) ∧ Below w.heap.size w w' := by
  obtain ⟨k, a, b, c, d, t, ks, A, cp, rfl, rfl⟩ : ∃ k a b c d t ks A cp, e = .mk k a b c d t ks ∧ ce = exCells k a b c d t A ks.length cp := by
    cases he with
    | mk k a b c d t ks A cp => exact ⟨k, a, b, c, d, t, ks, A, cp, rfl, rfl⟩
  have hpos := hTab.pos
  have HPR := Lib.hid (fun W (hW : Below w.heap.size w W) => print_any (.mk k a b c d t ks) we k a b c d t ks A cp W rfl (he.grow hW) (hTab.below hW hpos))
  have HCK := Lib.hid (fun W (hW : Below w.heap.size w W) => check_expr (.mk k a b c d t ks) _ W (he.grow hW))
  have HPS := Lib.hid (fun (s : ByteArray) (W : World) => parse_any s W)
  have HSM := Lib.hid (fun (f : Ex) (cf : List Value) (W : World) (hW : Below w.heap.size w W) (hf : ExIs W W.heap.size f cf) => samex_any (.mk k a b c d t ks) f _ cf W (he.grow hW) hf)
  have HPB := Lib.hid (fun hc hl => parse_back (e := .mk k a b c d t ks) we hc hl)
  unfold exCells at HCK HSM ⊢
  unfold PrQ prT at HPR
  generalize hex : (Ex.mk k a b c d t ks) = ex at HPR HCK HSM HPB
  have hb0 : Below w.heap.size w (w.alloc (.cells #[.int .i64 k, .int .u64 a, .int .u64 b, .int .u64 c, .int .u64 d, .string t, .slice A ks.length cp] 27)) := (by repeat (first | exact Below.refl _ _ | assumption | refine Below.drew ?_ | refine below_drewN ?_ _ | refine Below.alloc ?_ (by first | omega | (simp; omega) | simp) _ | refine Below.setCell ?_ (by first | omega | (simp; omega) | simp) _))
  have hbx : Blk (w.alloc (.cells #[.int .i64 k, .int .u64 a, .int .u64 b, .int .u64 c, .int .u64 d, .string t, .slice A ks.length cp] 27)) w.heap.size 27 #[.int .i64 k, .int .u64 a, .int .u64 b, .int .u64 c, .int .u64 d, .string t, .slice A ks.length cp] := blk_at rfl
  clear he we hTab hex
  go_enter Tryd.func4, Tryd.ntmps4
  go_wp2_with fail
  refine (HPS.out _ _).mono ?_
  generalize (w.alloc (.cells #[.int .i64 k, .int .u64 a, .int .u64 b, .int .u64 c, .int .u64 d, .string t, .slice A ks.length cp] 27)) = w1 at hb0 hbx ⊢
  rintro r w2 ⟨hb2', o, p, x, hP, k1, a1, b1, c1, d1, t1, ks1, A1, cp1, ho, rfl, hE1⟩
  obtain ⟨rfl, rfl, rfl⟩ := hP.uniq altAB_parse
  unfold altAB at ho
  injection ho with o1 o2 o3 o4 o5 o6 o7
  subst o1 o2 o3 o4 o5 o6 o7
  have hb2 := hb0.trans (hb2'.mono hb0.size)
  have hbx2 := hbx.below hb2' hbx.lt
  have hb3 := hb2.alloc hb2.size (.cells #[.int .i64 6, .int .u64 0, .int .u64 0, .int .u64 0, .int .u64 0, .string ⟨#[]⟩, .slice A1 2 cp1] 27)
  have hbx3 := hbx2.alloc (.cells #[.int .i64 6, .int .u64 0, .int .u64 0, .int .u64 0, .int .u64 0, .string ⟨#[]⟩, .slice A1 2 cp1] 27)
  have hy3 := Blk.new w2 27 #[.int .i64 6, .int .u64 0, .int .u64 0, .int .u64 0, .int .u64 0, .string ⟨#[]⟩, .slice A1 2 cp1]
  clear hP hE1 hb2' hb0 hbx hb2 hbx2
  go_upto_region 2 with fail
  generalize (w2.alloc (.cells #[.int .i64 6, .int .u64 0, .int .u64 0, .int .u64 0, .int .u64 0, .string ⟨#[]⟩, .slice A1 2 cp1] 27)) = w3 at hb3 hbx3 hy3 ⊢
  generalize w2.heap.size = yb at hy3 ⊢
  have y0 := hy3.cell 0
  have x0 := hbx3.cell 0
  have x1 := hbx3.cell 1
  have x2 := hbx3.cell 2
  have x3 := hbx3.cell 3
  have x4 := hbx3.cell 4
  have x5 := hbx3.cell 5
  have x6 := hbx3.cell 6
  go_wp2_with fail
  refine (HPR.out _ hb3).mono ?_
  rintro r w4 ⟨rfl, hb4'⟩
  have hb4 := hb3.trans (hb4'.mono hb3.size)
  have hbx4 := hbx3.below hb4' hbx3.lt
  clear hb4' hb3 hbx3 hy3 y0 x0 x1 x2 x3 x4 x5 x6
  have x0 := hbx4.cell 0
  have x1 := hbx4.cell 1
  have x2 := hbx4.cell 2
  have x3 := hbx4.cell 3
  have x4 := hbx4.cell 4
  have x5 := hbx4.cell 5
  have x6 := hbx4.cell 6
  by_cases h0 : checkE ex = 0
  · rw [if_pos h0, h0]
    have HP2 : Hid (∀ o p x, ParseR (txE ex) o p x → (2000 < (txE ex).length ∧ x = 2) ∨ ((txE ex).length ≤ 2000 ∧ o = some ex ∧ p = 0 ∧ x = 0)) := fun o p x h => by
      rcases Nat.lt_or_ge 2000 (txE ex).length with hl | hl
      · obtain ⟨_, _, h3⟩ := h.uniq (.large hl)
        exact .inl ⟨hl, h3⟩
      · exact .inr ⟨hl, h.uniq (HPB.out h0 hl)⟩
    have HLN : Hid ((⟨(txE ex).toArray⟩ : ByteArray).size = (txE ex).length) := sz_arr _
    have HDA : Hid ((⟨(txE ex).toArray⟩ : ByteArray).data.toList = txE ex) := data_arr _
    generalize txE ex = T at HP2 HLN HDA ⊢
    clear h0 HPB HPR HCK
    generalize (⟨T.toArray⟩ : ByteArray) = S at HLN HDA ⊢
    go_wp2_with fail
    refine (HPS.out S _).mono ?_
    rintro r w5 ⟨hb5', o, p, x, hP, k2, a2, b2, c2, d2, t2, ks2, A2, cp2, ho, rfl, hE2⟩
    rw [HDA.out] at hP
    have hb5 := hb4.trans (hb5'.mono hb4.size)
    have hbx5 := hbx4.below hb5' hbx4.lt
    have hb6 := hb5.alloc hb5.size (.cells #[.int .i64 k2, .int .u64 a2, .int .u64 b2, .int .u64 c2, .int .u64 d2, .string t2, .slice A2 ks2.length cp2] 27)
    have hbx6 := hbx5.alloc (.cells #[.int .i64 k2, .int .u64 a2, .int .u64 b2, .int .u64 c2, .int .u64 d2, .string t2, .slice A2 ks2.length cp2] 27)
    have hy6 := Blk.new w5 27 #[.int .i64 k2, .int .u64 a2, .int .u64 b2, .int .u64 c2, .int .u64 d2, .string t2, .slice A2 ks2.length cp2]
    have hE6 := hE2.allocR (.cells #[.int .i64 k2, .int .u64 a2, .int .u64 b2, .int .u64 c2, .int .u64 d2, .string t2, .slice A2 ks2.length cp2] 27)
    have HQ2 := Lib.hid (HP2.out o p x hP)
    clear hE2 hb5' hb4 hbx4 hb5 hbx5 x0 x1 x2 x3 x4 x5 x6 hP HP2 ho
    go_upto_region 8 with fail
    generalize (w5.alloc (.cells #[.int .i64 k2, .int .u64 a2, .int .u64 b2, .int .u64 c2, .int .u64 d2, .string t2, .slice A2 ks2.length cp2] 27)) = w6 at hb6 hbx6 hy6 hE6 ⊢
    generalize w5.heap.size = yb2 at hy6 ⊢
    rcases HQ2.out with ⟨hl, rfl⟩ | ⟨hl, rfl, rfl, rfl⟩
    · have hgt : (2000 : Int) < (S.size : Int) := by rw [HLN.out]; omega
      go_wp2
      go_ret
      exact ⟨rfl, hb6⟩
    · have hgt : ¬ (2000 : Int) < (S.size : Int) := by rw [HLN.out]; omega
      have x0 := hbx6.cell 0
      have x1 := hbx6.cell 1
      have x2 := hbx6.cell 2
      have x3 := hbx6.cell 3
      have x4 := hbx6.cell 4
      have x5 := hbx6.cell 5
      have x6 := hbx6.cell 6
      have y0 := hy6.cell 0
      have y1 := hy6.cell 1
      have y2 := hy6.cell 2
      have y3 := hy6.cell 3
      have y4 := hy6.cell 4
      have y5 := hy6.cell 5
      have y6 := hy6.cell 6
      have hsm := HSM.out ex _ w6 hb6 hE6.is
      unfold exCells at hsm
      rw [show isB (ex = ex) = true from isB_iff.2 rfl] at hsm
      have HSX := Lib.hid hsm
      clear hsm hE6 hl HQ2
      go_wp2_with fail
      refine HSX.out.mono ?_
      rintro r w7 ⟨rfl, hb7⟩
      go_wp2
      go_ret
      exact ⟨rfl, hb6.trans (hb7.mono hb6.size)⟩
  · rw [if_neg h0]
    have hne : (checkE ex != 0) = true := by rw [bne_iff_ne]; exact h0
    have hck := HCK.out w4 hb4
    have HCX := Lib.hid hck
    clear hck h0 HPB HPR HCK HSM
    generalize checkE ex = cx at HCX hne ⊢
    have heq : (cx == cx) = true := beq_self_eq_true cx
    go_wp2_with fail
    refine HCX.out.mono ?_
    rintro r w5 ⟨rfl, hb5⟩
    go_wp2
    go_ret
    exact ⟨rfl, hb4.trans (hb5.mono hb4.size)⟩
end Go.Proofs.YtndhbdbfjkmloaaDoor
namespace Go.Proofs.YtndhbdbfjkmloaaDoor
open Go.RowKit

/-- "!a" -/
def notA : Ex := .mk 11 0 0 0 0 ⟨#[]⟩ [.mk 4 0 0 0 0 ⟨#[97]⟩ []]
theorem notA_rt : Rtx notA := .mk _ _ _ _ _ _ _ (by decide +kernel) (by unfold U64; omega) (by unfold U64; omega) (by unfold U64; omega) (by unfold U64; omega) (fun e he => by
  rcases List.mem_cons.1 he with rfl | he
  · exact rtx_leaf (by decide +kernel)
  · cases he)
theorem notA_text : txE notA = [33, 97] := by decide +kernel
theorem notA_parse : ParseR [33, 97] (some notA) 0 0 := .ok notA [] (by decide) (by rw [← notA_text]; exact whole_print notA_rt) (by decide +kernel)
/-- what was read is right, and formed well -/
theorem parse_some {s : List UInt8} {e : Ex} {p : Nat} {x : Int} (h : ParseR s (some e) p x) : WfE e ∧ checkE e = 0 ∧ p = 0 ∧ x = 0 := by
  cases h with
  | ok _ l _ h1 h2 => exact ⟨(whole_wf h1).1, h2, rfl, rfl⟩
theorem parse_none {s : List UInt8} {p : Nat} {x : Int} (h : ParseR s none p x) : x ≠ 0 ∧ p ≤ s.length := by
  cases h with
  | large h1 => exact ⟨by decide, Nat.zero_le _⟩
  | syn l h1 h2 => exact ⟨by decide, Nat.sub_le _ _⟩
  | bad e l h1 h2 h3 => exact ⟨h3, Nat.zero_le _⟩
set_option maxRecDepth 100000 in
set_option maxHeartbeats 4000000 in
theorem walk_ReadAgain (s : ByteArray) (w : World) (hTab : TabAt w) :
    Calls Tryd.prog 5 #[.string s] w fun r w' => r = .returned (.bool true) ∧ Below w.heap.size w w' := by
  have hpos := hTab.pos
  have HTB := Lib.hid hTab
  have HPS := Lib.hid (fun (s : ByteArray) (W : World) => parse_any s W)
  have HSL := Lib.hid (size_list s)
  clear hTab
  go_enter Tryd.func5, Tryd.ntmps5
  go_wp2_with fail
  refine (HPS.out _ _).mono ?_
  rintro r w2 ⟨hb2, o, p, x, hP, k1, a1, b1, c1, d1, t1, ks1, A1, cp1, ho, rfl, hE1⟩
  obtain ⟨rfl, rfl, rfl⟩ := hP.uniq notA_parse
  unfold notA at ho
  injection ho with o1 o2 o3 o4 o5 o6 o7
  subst o1 o2 o3 o4 o5 o6 o7
  have hb3 := hb2.alloc hb2.size (.cells #[.int .i64 11, .int .u64 0, .int .u64 0, .int .u64 0, .int .u64 0, .string ⟨#[]⟩, .slice A1 1 cp1] 27)
  have hy3 := Blk.new w2 27 #[.int .i64 11, .int .u64 0, .int .u64 0, .int .u64 0, .int .u64 0, .string ⟨#[]⟩, .slice A1 1 cp1]
  clear hP hE1 hb2
  go_upto_region 2 with fail
  generalize (w2.alloc (.cells #[.int .i64 11, .int .u64 0, .int .u64 0, .int .u64 0, .int .u64 0, .string ⟨#[]⟩, .slice A1 1 cp1] 27)) = w3 at hb3 hy3 ⊢
  generalize w2.heap.size = yb at hy3 ⊢
  have y0 := hy3.cell 0
  go_wp2_with fail
  refine (HPS.out _ _).mono ?_
  rintro r w5 ⟨hb5', o, p, x, hP, k, a, b, c, d, t, ks, A, cp, ho, rfl, hE2⟩
  have hb5 := hb3.trans (hb5'.mono hb3.size)
  have hb6 := hb5.alloc hb5.size (.cells #[.int .i64 k, .int .u64 a, .int .u64 b, .int .u64 c, .int .u64 d, .string t, .slice A ks.length cp] 27)
  have hx6 := Blk.new w5 27 #[.int .i64 k, .int .u64 a, .int .u64 b, .int .u64 c, .int .u64 d, .string t, .slice A ks.length cp]
  have hE6 := hE2.allocR (.cells #[.int .i64 k, .int .u64 a, .int .u64 b, .int .u64 c, .int .u64 d, .string t, .slice A ks.length cp] 27)
  clear hE2 hb5' hb5 hb3 hy3 y0
  go_upto_region 5 with fail
  have hs5 : w5.heap.size < (w5.alloc (.cells #[.int .i64 k, .int .u64 a, .int .u64 b, .int .u64 c, .int .u64 d, .string t, .slice A ks.length cp] 27)).heap.size := by simp
  generalize (w5.alloc (.cells #[.int .i64 k, .int .u64 a, .int .u64 b, .int .u64 c, .int .u64 d, .string t, .slice A ks.length cp] 27)) = w6 at hb6 hx6 hE6 hs5 ⊢
  generalize w5.heap.size = xb at hx6 hs5 ⊢
  have x0 := hx6.cell 0
  have x1 := hx6.cell 1
  have x2 := hx6.cell 2
  have x3 := hx6.cell 3
  have x4 := hx6.cell 4
  have x5 := hx6.cell 5
  have x6 := hx6.cell 6
  cases o with
  | none =>
    obtain ⟨hx, hp⟩ := parse_none hP
    have ho' : zeroE = .mk k a b c d t ks := ho
    unfold zeroE at ho'
    injection ho' with o1 o2 o3 o4 o5 o6 o7
    subst o1 o2 o3 o4 o5 o6 o7
    have hne : (x != 0) = true := by rw [bne_iff_ne]; exact hx
    rw [HSL.out] at hp
    have hp1 : (0 : Int) ≤ (p : Int) := by omega
    have hp2 : (p : Int) ≤ (s.size : Int) := by omega
    clear hx hP ho
    go_wp2
    go_ret
    exact ⟨rfl, hb6⟩
  | some e =>
    obtain ⟨hwf, hck, rfl, rfl⟩ := parse_some hP
    have ho' : e = .mk k a b c d t ks := ho
    have hPR := print_any e hwf k a b c d t ks A cp w6 ho' hE6.is (HTB.out.below hb6 hpos)
    unfold PrQ prT at hPR
    rw [if_pos hck, hck] at hPR
    have HPR := Lib.hid hPR
    have HPB := Lib.hid (fun hl => parse_back hwf hck hl)
    have HE6 := Lib.hid hE6
    have HEO := Lib.hid ho'
    clear hPR hwf hck ho' ho hP hE6
    have HSM := Lib.hid (fun (f : Ex) (cf : List Value) (W : World) (hW : Below w6.heap.size w6 W) (hf : ExIs W W.heap.size f cf) => samex_any e f _ cf W (HE6.out.is.grow hW) hf)
    unfold exCells at HSM
    go_wp2_with fail
    refine HPR.out.mono ?_
    rintro r w7 ⟨rfl, hb7⟩
    have hb70 := hb6.trans (hb7.mono hb6.size)
    have hx7 := hx6.below hb7 hs5
    have HP2 : Hid (∀ o p x, ParseR (txE e) o p x → (2000 < (txE e).length ∧ x = 2) ∨ ((txE e).length ≤ 2000 ∧ o = some e ∧ p = 0 ∧ x = 0)) := fun o p x h => by
      rcases Nat.lt_or_ge 2000 (txE e).length with hl | hl
      · obtain ⟨_, _, h3⟩ := h.uniq (.large hl)
        exact .inl ⟨hl, h3⟩
      · exact .inr ⟨hl, h.uniq (HPB.out hl)⟩
    have HLN : Hid ((⟨(txE e).toArray⟩ : ByteArray).size = (txE e).length) := sz_arr _
    have HDA : Hid ((⟨(txE e).toArray⟩ : ByteArray).data.toList = txE e) := data_arr _
    clear HPR HPB hx6 hb6 x0 x1 x2 x3 x4 x5 x6
    generalize txE e = T at HP2 HLN HDA ⊢
    generalize (⟨T.toArray⟩ : ByteArray) = S at HLN HDA ⊢
    go_wp2_with fail
    refine (HPS.out S _).mono ?_
    rintro r w8 ⟨hb8', o, p, x, hP, k2, a2, b2, c2, d2, t2, ks2, A2, cp2, ho, rfl, hE8⟩
    rw [HDA.out] at hP
    have hb8 := hb70.trans (hb8'.mono hb70.size)
    have hb68 := hb7.trans (hb8'.mono hb7.size)
    have hx8 := hx7.below hb8' hx7.lt
    have hb9 := hb8.alloc hb8.size (.cells #[.int .i64 k2, .int .u64 a2, .int .u64 b2, .int .u64 c2, .int .u64 d2, .string t2, .slice A2 ks2.length cp2] 27)
    have hb69 := hb68.alloc hb68.size (.cells #[.int .i64 k2, .int .u64 a2, .int .u64 b2, .int .u64 c2, .int .u64 d2, .string t2, .slice A2 ks2.length cp2] 27)
    have hx9 := hx8.alloc (.cells #[.int .i64 k2, .int .u64 a2, .int .u64 b2, .int .u64 c2, .int .u64 d2, .string t2, .slice A2 ks2.length cp2] 27)
    have hy9 := Blk.new w8 27 #[.int .i64 k2, .int .u64 a2, .int .u64 b2, .int .u64 c2, .int .u64 d2, .string t2, .slice A2 ks2.length cp2]
    have hE9 := hE8.allocR (.cells #[.int .i64 k2, .int .u64 a2, .int .u64 b2, .int .u64 c2, .int .u64 d2, .string t2, .slice A2 ks2.length cp2] 27)
    have HQ2 := Lib.hid (HP2.out o p x hP)
    clear hE8 hb8' hb7 hb70 hx7 hb8 hb68 hx8 hP HP2 ho
    go_upto_region 11 with fail
    generalize (w8.alloc (.cells #[.int .i64 k2, .int .u64 a2, .int .u64 b2, .int .u64 c2, .int .u64 d2, .string t2, .slice A2 ks2.length cp2] 27)) = w9 at hb9 hb69 hx9 hy9 hE9 ⊢
    generalize w8.heap.size = yb2 at hy9 ⊢
    rcases HQ2.out with ⟨hl, rfl⟩ | ⟨hl, rfl, rfl, rfl⟩
    · have hgt : (2000 : Int) < (S.size : Int) := by rw [HLN.out]; omega
      clear HQ2
      go_wp2
      go_ret
      exact ⟨rfl, hb9⟩
    · have hgt : ¬ (2000 : Int) < (S.size : Int) := by rw [HLN.out]; omega
      have x0 := hx9.cell 0
      have x1 := hx9.cell 1
      have x2 := hx9.cell 2
      have x3 := hx9.cell 3
      have x4 := hx9.cell 4
      have x5 := hx9.cell 5
      have x6 := hx9.cell 6
      have y0 := hy9.cell 0
      have y1 := hy9.cell 1
      have y2 := hy9.cell 2
      have y3 := hy9.cell 3
      have y4 := hy9.cell 4
      have y5 := hy9.cell 5
      have y6 := hy9.cell 6
      have hsm := HSM.out e _ w9 hb69 hE9.is
      unfold exCells at hsm
      rw [show isB (e = e) = true from isB_yes rfl] at hsm
      have HSX := Lib.hid hsm
      clear hsm hE9 hl HQ2 HEO HE6
      go_wp2_with fail
      refine HSX.out.mono ?_
      rintro r w10 ⟨rfl, hb10⟩
      go_wp2
      go_ret
      exact ⟨rfl, hb9.trans (hb10.mono hb9.size)⟩
end Go.Proofs.YtndhbdbfjkmloaaDoor
