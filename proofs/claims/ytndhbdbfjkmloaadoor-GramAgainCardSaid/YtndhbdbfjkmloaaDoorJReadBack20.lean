/- show.within and show.text. show.Print, and the walk of the law ShowApart. gram.Print. chaffref.SameGrammar. -/
import Derived.Test.YtndhbdbfjkmloaaDoorJReadBack17
import Derived.Test.YtndhbdbfjkmloaaDoorJReadBack18
namespace Go.Proofs.YtndhbdbfjkmloaaDoor
open Go.RowKit

theorem str_app2 (a b : List UInt8) : (⟨a.toArray⟩ : ByteArray) ++ ⟨b.toArray⟩ = ⟨(a ++ b).toArray⟩ := by
  apply ByteArray.ext
  simp
theorem to_bytes {u : ByteArray} {l : List UInt8} (h : u.data.toList = l) : u = ⟨l.toArray⟩ := by
  rw [← h, text_back]
/-- what text answers -/
def DoesT (e : Ex) : Prop := ∀ (k a b c d : Int) (t : ByteArray) (ks : List Ex) (A : Option Addr) (cp : Nat) (w : World), e = .mk k a b c d t ks → ExIs w w.heap.size e (exCells k a b c d t A ks.length cp) → TabAt w →
  Calls Tryd.prog 28 #[.agg #[.int .i64 k, .int .u64 a, .int .u64 b, .int .u64 c, .int .u64 d, .string t, .slice A ks.length cp]] w fun r w' => r = .returned (.string ⟨(txE e).toArray⟩) ∧ Below w.heap.size w w'
set_option maxRecDepth 100000 in
set_option maxHeartbeats 4000000 in
theorem within_any2 {e : Ex} (hT : DoesT e) (hlen : (txE e).length ≤ 1000000) (least : Nat) (k a b c d : Int) (t : ByteArray) (ks : List Ex) (A : Option Addr) (cp : Nat) (w : World) (he : e = .mk k a b c d t ks) (hx : ExIs w w.heap.size e (exCells k a b c d t A ks.length cp)) (hTab : TabAt w) :
    Calls Tryd.prog 58 #[.agg #[.int .i64 k, .int .u64 a, .int .u64 b, .int .u64 c, .int .u64 d, .string t, .slice A ks.length cp], .int .i64 (least : Int)] w fun r w' => r = .returned (.string ⟨(brk e least (txE e)).toArray⟩) ∧ Below w.heap.size w w' := by
  have HT := Lib.hid (fun W (hW : Below w.heap.size w W) => hT k a b c d t ks A cp W he (hx.grow hW) (hTab.below hW hTab.pos))
  have hbx : Blk (w.alloc (.cells #[.int .i64 k, .int .u64 a, .int .u64 b, .int .u64 c, .int .u64 d, .string t, .slice A ks.length cp] 27)) w.heap.size 27 #[.int .i64 k, .int .u64 a, .int .u64 b, .int .u64 c, .int .u64 d, .string t, .slice A ks.length cp] := blk_at rfl
  have hbw : Below w.heap.size w (w.alloc (.cells #[.int .i64 k, .int .u64 a, .int .u64 b, .int .u64 c, .int .u64 d, .string t, .slice A ks.length cp] 27)) := (by repeat (first | exact Below.refl _ _ | assumption | refine Below.drew ?_ | refine below_drewN ?_ _ | refine Below.alloc ?_ (by first | omega | (simp; omega) | simp) _ | refine Below.setCell ?_ (by first | omega | (simp; omega) | simp) _))
  have HLV := Lib.hid (fun W => level_any k a b c d t A ks.length cp W)
  have HK : Hid (brk e least (txE e) = if lvl k < least then 40 :: (txE e ++ [41]) else txE e) := by
    show _ = _
    rw [he]
    rfl
  generalize brk e least (txE e) = B at HK ⊢
  generalize txE e = T at HT HK hlen
  generalize lvl k = v at HLV HK
  clear he hx hTab hT
  go_enter Tryd.func58, Tryd.ntmps58
  go_wp2_with fail
  refine (HT.out _ hbw).mono ?_
  rintro r w1 ⟨rfl, hb1'⟩
  have hb1 := hbw.trans (hb1'.mono hbw.size)
  have hbx1 := hbx.below hb1' (by simp)
  have x0 := hbx1.cell 0
  have x1 := hbx1.cell 1
  have x2 := hbx1.cell 2
  have x3 := hbx1.cell 3
  have x4 := hbx1.cell 4
  have x5 := hbx1.cell 5
  have x6 := hbx1.cell 6
  clear hb1' hbx hbx1
  go_wp2_with fail
  refine (HLV.out _).mono ?_
  rintro r w2 ⟨rfl, hb2⟩
  have hb := hb1.trans (hb2.mono hb1.size)
  have n1 : ¬ 9223372036854775807 < 1 + T.length := by omega
  have n2 : ¬ 9223372036854775807 < 1 + T.length + 1 := by omega
  by_cases hlt : v < least
  · have hK : B = 40 :: (T ++ [41]) := by rw [HK.out, if_pos hlt]
    go_wp2
    go_ret
    exact ⟨by rw [hK, show (40 :: (T ++ [41]) : List UInt8) = ([40] ++ T) ++ [41] from rfl, ← str_app2, ← str_app2]; rfl, hb⟩
  · have hK : B = T := by rw [HK.out, if_neg hlt]
    go_wp2
    go_ret
    exact ⟨by rw [hK]; rfl, hb⟩

def strX (l : List (List UInt8)) : List Value := l.map fun x => .string ⟨x.toArray⟩
theorem str_infoX : (Tryd.prog.info? 9).map (fun i => (i.zero, i.size, i.bytes)) = some (some (.string ByteArray.empty), 1, 16) := by kernel_rfl
theorem cell_atX {w : World} {g k : Nat} : w.cell? ((⟨g, 0, none⟩ : Addr).add k) = w.cell? ⟨g, 0 + k, none⟩ := by
  cases k with
  | zero => rfl
  | succ k => simp [Addr.add]
theorem rangeF : rangeL 0 256 = [18446744073709551615, 18446744073709551615, 18446744073709551615, 18446744073709551615] := by decide +kernel
theorem full_any (w : World) : Calls Tryd.prog 56 #[.int .i64 0, .int .i64 255] w fun e w' => e = .returned (.agg #[.int .u64 wM, .int .u64 wM, .int .u64 wM, .int .u64 wM]) ∧ Below w.heap.size w w' := by
  refine (range_any 0 255 w (by unfold I64; omega) (by unfold I64; omega) 0 256 (.inl ⟨by omega, rfl⟩) (by decide)).mono fun e w' ⟨h, hb⟩ => ⟨?_, hb⟩
  rw [h, rangeF]
  rfl
theorem nodes_mem {e : Ex} : ∀ {ks : List Ex}, e ∈ ks → nodes e ≤ nodesAll ks
  | _ :: _, .head _ => by rw [nodesAll]; omega
  | _ :: _, .tail _ h => by rw [nodesAll]; have := nodes_mem h; omega
set_option maxRecDepth 100000 in
set_option maxHeartbeats 8000000 in
theorem text_any (e : Ex) : Rtx e → nodes e ≤ 60 → DoesT e := by
  induction e using Ex.ind with
  | h k a b c d t ks ih =>
    intro hR hn k' a' b' c' d' t' ks' A cp w he hx hTab
    injection he with e1 e2 e3 e4 e5 e6 e7
    subst e1 e2 e3 e4 e5 e6 e7
    have hlen := tx_len _ hR
    have hL : (txE (.mk k a b c d t ks)).length ≤ 200000 := by omega
    cases hR with
    | mk _ _ _ _ _ _ _ hf ha hb hc hd hks =>
    have hpos := hTab.pos
    have htz := hx.len.1
    have hmx := hx.len.2.2.2.1
    have hmn := hx.len.2.2.1
    obtain ⟨T, hT⟩ : ∃ T, T = txE (.mk k a b c d t ks) := ⟨_, rfl⟩
    rw [← hT] at hL ⊢
    rw [txE] at hT
    have hbw : Below w.heap.size w (w.alloc (.cells #[.int .i64 k, .int .u64 a, .int .u64 b, .int .u64 c, .int .u64 d, .string t, .slice A ks.length cp] 27)) := (by repeat (first | exact Below.refl _ _ | assumption | refine Below.drew ?_ | refine below_drewN ?_ _ | refine Below.alloc ?_ (by first | omega | (simp; omega) | simp) _ | refine Below.setCell ?_ (by first | omega | (simp; omega) | simp) _))
    have hbx : Blk (w.alloc (.cells #[.int .i64 k, .int .u64 a, .int .u64 b, .int .u64 c, .int .u64 d, .string t, .slice A ks.length cp] 27)) w.heap.size 27 #[.int .i64 k, .int .u64 a, .int .u64 b, .int .u64 c, .int .u64 d, .string t, .slice A ks.length cp] := blk_at rfl
    have x0 := hbx.cell 0
    have x1 := hbx.cell 1
    have x2 := hbx.cell 2
    have x3 := hbx.cell 3
    have x4 := hbx.cell 4
    have x5 := hbx.cell 5
    have x6 := hbx.cell 6
    rcases fit_what hf with ⟨rfl, hz⟩ | ⟨rfl, hz⟩ | ⟨rfl, ht, hz⟩ | ⟨rfl, ht, hz⟩ | ⟨hk, hz1, hz, hn2, hn8⟩ | ⟨hk, hz1, hz, hn1⟩
    · rw [if_pos rfl] at hT
      have HT := Lib.hid hT
      clear hT ih hks hx hz
      go_enter Tryd.func28, Tryd.ntmps28
      go_wp2
      go_ret
      exact ⟨by rw [HT.out]; rfl, hbw⟩
    · rw [if_neg (by decide), if_pos rfl] at hT
      obtain ⟨q, hq⟩ : ∃ q, (a == wM && (b == wM && (c == wM && d == wM))) = q := ⟨_, rfl⟩
      have hsm := fun W => run_same_set W a b c d wM wM wM wM
      rw [hq] at hsm
      obtain ⟨hwd, hes⟩ := words_of ha hb hc hd
      have HCL := Lib.hid (fun W hT => class_any [a.toNat, b.toNat, c.toNat, d.toNat] hwd W hT)
      have hvv : vals [a.toNat, b.toNat, c.toNat, d.toNat] = .agg #[.int .u64 a, .int .u64 b, .int .u64 c, .int .u64 d] := by
        unfold vals
        simp [Int.toNat_of_nonneg ha.1, Int.toNat_of_nonneg hb.1, Int.toNat_of_nonneg hc.1, Int.toNat_of_nonneg hd.1]
      rw [hvv] at HCL
      have hq3 : (q = true ∧ T = [46]) ∨ (q = false ∧ T = clsAll [a.toNat, b.toNat, c.toNat, d.toNat]) := by
        by_cases hF : a = wM ∧ b = wM ∧ c = wM ∧ d = wM
        · rw [if_pos hF] at hT
          refine .inl ⟨?_, hT⟩
          rw [← hq, hF.1, hF.2.1, hF.2.2.1, hF.2.2.2]
          rfl
        · rw [if_neg hF] at hT
          refine .inr ⟨?_, hT⟩
          cases hb : q with
          | false => rfl
          | true =>
            rw [hb] at hq
            simp only [Bool.and_eq_true, beq_iff_eq] at hq
            exact absurd ⟨hq.1, hq.2.1, hq.2.2.1, hq.2.2.2⟩ hF
      have HT := Lib.hid hq3
      have HFA := Lib.hid (fun W => full_any W)
      generalize wM = M at hsm HFA
      clear hT ih hks hx hz hq hq3 hvv
      go_enter Tryd.func28, Tryd.ntmps28
      go_wp2_with fail
      refine wp_region_q (fun W => Below w.heap.size w W ∧ Blk W w.heap.size 27 #[.int .i64 2, .int .u64 a, .int .u64 b, .int .u64 c, .int .u64 d, .string t, .slice A ks.length cp]) (by kernel_rfl) (by kernel_rfl) ⟨hbw.drew, hbx.drew⟩ ?_
      repeat
        (first | ((with_reducible apply QW.free rfl); · (intro W hW; obtain ⟨q1, q2⟩ := hW; have g1 := q2.cell 1; have g2 := q2.cell 2; have g3 := q2.cell 3; have g4 := q2.cell 4; go_simp; first | (go_at_call 56; refine (HFA.out _).mono ?_; rintro e w' ⟨rfl, hbb⟩; exact ⟨rfl, q1.trans (hbb.mono q1.size), q2.below hbb q2.lt⟩) | rfl | exact hsm _)) | ((with_reducible apply QW.skip rfl); · (first | exact ⟨_, _, rfl, rfl, .inl rfl⟩ | exact ⟨_, _, rfl, rfl, .inr rfl⟩)) | ((with_reducible apply QW.take rfl); (· exact ⟨_, rfl, rfl⟩); (· (intro W hW; obtain ⟨q1, q2⟩ := hW; have g1 := q2.cell 1; have g2 := q2.cell 2; have g3 := q2.cell 3; have g4 := q2.cell 4; go_simp; first | (go_at_call 56; refine (HFA.out _).mono ?_; rintro e w' ⟨rfl, hbb⟩; exact ⟨rfl, q1.trans (hbb.mono q1.size), q2.below hbb q2.lt⟩) | rfl | exact hsm _)))); (try simp only [Act.put, List.setIfInBounds_toArray, List.set_cons_zero, List.set_cons_succ])
      refine QW.nil ?_
      rintro w1 ⟨q1, q2⟩
      have g1 := q2.cell 1
      have g2 := q2.cell 2
      have g3 := q2.cell 3
      have g4 := q2.cell 4
      rcases HT.out with ⟨rfl, rfl⟩ | ⟨rfl, hT⟩
      · go_wp2
        go_ret
        exact ⟨rfl, q1⟩
      · have HT2 := Lib.hid hT
        clear hT
        go_wp2_with fail
        refine (HCL.out _ (hTab.below q1 hpos)).mono ?_
        rintro r w2 ⟨⟨u, rfl, hu⟩, hb2⟩
        have hu' := to_bytes hu
        go_wp2
        go_ret
        exact ⟨by rw [HT2.out]; first | rfl | (rw [hu']; rfl), q1.trans (hb2.mono q1.size)⟩
    · rw [if_neg (by decide), if_neg (by decide), if_pos rfl] at hT
      have HT := Lib.hid hT
      have HLT := Lib.hid (fun W => lit_any t W (by have := size_list t; have := ht.2; omega))
      clear hT ih hks hx hz
      go_enter Tryd.func28, Tryd.ntmps28
      go_wp2_with fail
      refine (HLT.out _).mono ?_
      rintro r w1 ⟨⟨u, rfl, hu⟩, hb1⟩
      have hu' := to_bytes hu
      go_wp2
      go_ret
      exact ⟨by rw [HT.out]; first | rfl | (rw [hu']; rfl), hbw.trans (hb1.mono hbw.size)⟩
    · rw [if_neg (by decide), if_neg (by decide), if_neg (by decide), if_pos rfl] at hT
      have HT := Lib.hid hT
      clear hT ih hks hx hz ht
      go_enter Tryd.func28, Tryd.ntmps28
      go_wp2
      go_ret
      exact ⟨by rw [HT.out, text_back]; rfl, hbw⟩
    · have hnk : nodesAll ks ≤ 59 := by
        rw [nodes] at hn
        omega
      have IH := Lib.hid (fun e (he : e ∈ ks) => ih e he (hks e he) (Nat.le_trans (nodes_mem he) (by omega)))
      have HKL := Lib.hid (fun e (he : e ∈ ks) => tx_len e (hks e he))
      have HX := Lib.hid hx
      have HNM := Lib.hid (fun e (he : e ∈ ks) => nodes_mem he)
      obtain ⟨i0, hi0, hz0', hz1', hz2'⟩ := info_parts str_infoX
      unfold maxLen at hmx
      rcases hk with rfl | rfl
      · skip
        simp only [Int.reduceEq, if_false] at hT
        have HT := Lib.hid hT
        have HJL := Lib.hid (join_txL 3 [32] (by decide) ks HKL.out)
        clear hT ih hks hx hz hz1
        go_enter Tryd.func28, Tryd.ntmps28
        go_wp2
        go_loopw [5, 7, 76] (fun v _ i wr => ∃ j : Nat, j ≤ ks.length ∧ i = .int .i64 j ∧ (∃ V vp, v = .slice V j vp ∧ Hid (wr.ownsRow (w.heap.size + 1) 9 1 (.slice V j vp) j (strX (txL 3 (ks.take j))))) ∧ Below w.heap.size w wr ∧ w.heap.size + 1 ≤ wr.heap.size) (fun _ _ i _ => ks.length - (intOf i).toNat)
        case atStart => exact ⟨0, by omega, rfl, ⟨none, 0, rfl, ⟨rfl, .inl ⟨rfl, rfl⟩⟩⟩, hbw, by simp⟩
        case round =>
          obtain ⟨j, hj, rfl, ⟨V, vp, rfl, HOWN⟩, hwr, hws⟩ := hrel
          by_cases hjk : j < ks.length
          · have HD : Hid (ks.take (j + 1) = ks.take j ++ [ks[j]]) := by
              show _ = _
              exact take_succ_of (List.getElem?_eq_getElem hjk)
            obtain ⟨ad, k1, a1, b1, c1, d1, t1, ks1, A1, cp1, rfl, hab, hej, hx1, hS⟩ := HX.out.kid (j := j) hjk
            have hmem := List.mem_of_getElem? hej
            have hk1 := fun (q : Addr) (hq : q.block = (ad.add (j * 7)).block) => hwr.cell (p := q) (by rw [hq, add_block]; exact hab)
            have y0 := (hk1 _ rfl).trans hS.c0
            have y1 := (hk1 ⟨_, _, none⟩ rfl).trans hS.c1
            have y2 := (hk1 ⟨_, _, none⟩ rfl).trans hS.c2
            have y3 := (hk1 ⟨_, _, none⟩ rfl).trans hS.c3
            have y4 := (hk1 ⟨_, _, none⟩ rfl).trans hS.c4
            have y5 := (hk1 ⟨_, _, none⟩ rfl).trans hS.c5
            have y6 := (hk1 ⟨_, _, none⟩ rfl).trans hS.c6
            have hl1 := HKL.out _ hmem
            have hnm := HNM.out _ hmem
            have HCall := Lib.hid (fun W (hW : Below w.heap.size w W) => within_any2 (IH.out _ hmem) (by omega) 3 k1 a1 b1 c1 d1 t1 ks1 A1 cp1 W rfl (hx1.grow hW) (hTab.below hW hpos))
            rw [show ((3 : Nat) : Int) = 3 from rfl] at HCall
            have HSN : Hid (strX (txL 3 (ks.take (j + 1))) = strX (txL 3 (ks.take j)) ++ [.string ⟨(brk (.mk k1 a1 b1 c1 d1 t1 ks1) 3 (txE (.mk k1 a1 b1 c1 d1 t1 ks1))).toArray⟩]) := by
              show _ = _
              have hej2 : ks[j] = .mk k1 a1 b1 c1 d1 t1 ks1 := by rw [List.getElem?_eq_getElem hjk] at hej; exact Option.some.inj hej
              rw [HD.out, txL_map, txL_map, hej2]
              unfold strX
              simp
            have hbl := brk_len (.mk k1 a1 b1 c1 d1 t1 ks1) 3 (txE (.mk k1 a1 b1 c1 d1 t1 ks1))
            generalize brk (.mk k1 a1 b1 c1 d1 t1 ks1) 3 (txE (.mk k1 a1 b1 c1 d1 t1 ks1)) = F at HCall HSN hbl
            have hj0 : (0 : Int) ≤ (j : Int) := by omega
            have hj1 : (j : Int) < (ks.length : Int) := by omega
            clear hS hx1 HD hk1 hej hmem
            have hwo := hwr.alloc hwr.size (.cells #[.int .i64 k1, .int .u64 a1, .int .u64 b1, .int .u64 c1, .int .u64 d1, .string t1, .slice A1 ks1.length cp1] 27)
            go_wp2_with fail
            refine (HCall.out _ hwo).mono ?_
            rintro e w2 ⟨rfl, hb2⟩
            have hw2 : Below w.heap.size w w2 := hwo.trans (hb2.mono hwo.size)
            have hs2 := hb2.size
            have hsa : (wr.alloc (.cells #[.int .i64 k1, .int .u64 a1, .int .u64 b1, .int .u64 c1, .int .u64 d1, .string t1, .slice A1 ks1.length cp1] 27)).heap.size = wr.heap.size + 1 := by simp
            rw [hsa] at hs2
            have hown3 := own_below (HOWN.out.alloc _) hb2
            have hsw := hw2.size
            clear hb2 HOWN hsa
            go_wp2_with (at_builtin; refine wpList_append_lies _ rfl _ _ _ rfl (w.heap.size + 1) 9 i0 _ 1 16 Tryd.underlying74 hi0 hz0' hz1' hz2' rfl (by omega) (.slice V j vp) j _ rfl (hown3.alloc _) ⟨w2.heap.size, 0, none⟩ 1 1 [.string ⟨F.toArray⟩] rfl rfl (World.news_of_block (cs := #[.string ⟨F.toArray⟩]) (t := 9) (fr := (0, 0)) (heap_alloc_new w2 _)) (by intro u hu; simp at hu; subst hu; rfl) (by omega) (by unfold maxLen; omega) (by omega) (by simp; omega) _ rfl ?_; intro g3 cap w3 hown4 hgrow hat hlt)
            go_roundw
            case rel =>
              refine ⟨j + 1, by omega, by go_num, ⟨_, cap, rfl, ?_⟩, below_app (hw2.alloc hsw _) (hown3.alloc _) hgrow (by simp; omega) (by omega), by have := hgrow.size; simp at this; omega⟩
              show World.ownsRow _ _ _ _ _ _ _
              rw [HSN.out]
              exact hown4
            case measure => simp [intOf]; omega
          · obtain rfl : j = ks.length := by omega
            have hta : ks.take ks.length = ks := List.take_length
            rw [hta] at HOWN
            obtain ⟨g, cq, hv, hgb, hgl⟩ := HOWN.out.form (by omega)
            simp only [Value.slice.injEq, true_and] at hv
            obtain ⟨rfl, rfl⟩ := hv
            have hcap : ks.length ≤ vp := by
              rcases HOWN.out.2 with ⟨e, e2⟩ | ⟨g', c', cur, e, _, _, e1, e2, _⟩
              · cases e
              · simp only [Value.slice.injEq] at e
                rw [e.2.2]
                exact e1
            have hxl : ((txL 3 ks).map fun x => (⟨x.toArray⟩ : ByteArray)).length = ks.length := by rw [List.length_map, txL_len]
            have hmm : (((txL 3 ks).map fun x => (⟨x.toArray⟩ : ByteArray)).map (·.data.toList)) = txL 3 ks := by simp [List.map_map, Function.comp_def]
            have hjl := HJL.out
            have HJ := sh_strings_Join g 0 vp ((txL 3 ks).map fun x => (⟨x.toArray⟩ : ByteArray)) ⟨#[32]⟩ wr (fun k x hx => by
              have := HOWN.out.cells (g := g) rfl k (.string x) (by unfold strX; rw [List.getElem?_map] at hx ⊢; rw [Option.map_eq_some_iff] at hx ⊢; obtain ⟨y, h1, rfl⟩ := hx; exact ⟨y, h1, rfl⟩)
              rwa [cell_atX] at this) hgl (by omega) (by omega) (by rw [hmm]; show (Lib.join (txL 3 ks) [32]).length ≤ _; omega)
            rw [hxl, hmm] at HJ
            have hsp : (ByteArray.mk #[32]).data.toList = [32] := rfl
            rw [hsp] at HJ
            generalize Lib.join (txL 3 ks) [32] = JJ at HJ HT hjl
            replace HJ := Lib.hid HJ
            clear hxl hmm hjl hsp
            go_wp2_with fail
            refine (HJ.out).mono ?_
            rintro e w2 ⟨rfl, hb2⟩
            go_wp2
            go_ret
            exact ⟨by rw [HT.out]; rfl, hwr.trans (hb2.mono hwr.size)⟩
      · skip
        simp only [Int.reduceEq, if_false, if_true] at hT
        have HT := Lib.hid hT
        have HJL := Lib.hid (join_txL 2 [32, 47, 32] (by decide) ks HKL.out)
        clear hT ih hks hx hz hz1
        go_enter Tryd.func28, Tryd.ntmps28
        go_wp2
        go_loopw [5, 7, 76] (fun v _ i wr => ∃ j : Nat, j ≤ ks.length ∧ i = .int .i64 j ∧ (∃ V vp, v = .slice V j vp ∧ Hid (wr.ownsRow (w.heap.size + 1) 9 1 (.slice V j vp) j (strX (txL 2 (ks.take j))))) ∧ Below w.heap.size w wr ∧ w.heap.size + 1 ≤ wr.heap.size) (fun _ _ i _ => ks.length - (intOf i).toNat)
        case atStart => exact ⟨0, by omega, rfl, ⟨none, 0, rfl, ⟨rfl, .inl ⟨rfl, rfl⟩⟩⟩, hbw, by simp⟩
        case round =>
          obtain ⟨j, hj, rfl, ⟨V, vp, rfl, HOWN⟩, hwr, hws⟩ := hrel
          by_cases hjk : j < ks.length
          · have HD : Hid (ks.take (j + 1) = ks.take j ++ [ks[j]]) := by
              show _ = _
              exact take_succ_of (List.getElem?_eq_getElem hjk)
            obtain ⟨ad, k1, a1, b1, c1, d1, t1, ks1, A1, cp1, rfl, hab, hej, hx1, hS⟩ := HX.out.kid (j := j) hjk
            have hmem := List.mem_of_getElem? hej
            have hk1 := fun (q : Addr) (hq : q.block = (ad.add (j * 7)).block) => hwr.cell (p := q) (by rw [hq, add_block]; exact hab)
            have y0 := (hk1 _ rfl).trans hS.c0
            have y1 := (hk1 ⟨_, _, none⟩ rfl).trans hS.c1
            have y2 := (hk1 ⟨_, _, none⟩ rfl).trans hS.c2
            have y3 := (hk1 ⟨_, _, none⟩ rfl).trans hS.c3
            have y4 := (hk1 ⟨_, _, none⟩ rfl).trans hS.c4
            have y5 := (hk1 ⟨_, _, none⟩ rfl).trans hS.c5
            have y6 := (hk1 ⟨_, _, none⟩ rfl).trans hS.c6
            have hl1 := HKL.out _ hmem
            have hnm := HNM.out _ hmem
            have HCall := Lib.hid (fun W (hW : Below w.heap.size w W) => within_any2 (IH.out _ hmem) (by omega) 2 k1 a1 b1 c1 d1 t1 ks1 A1 cp1 W rfl (hx1.grow hW) (hTab.below hW hpos))
            rw [show ((2 : Nat) : Int) = 2 from rfl] at HCall
            have HSN : Hid (strX (txL 2 (ks.take (j + 1))) = strX (txL 2 (ks.take j)) ++ [.string ⟨(brk (.mk k1 a1 b1 c1 d1 t1 ks1) 2 (txE (.mk k1 a1 b1 c1 d1 t1 ks1))).toArray⟩]) := by
              show _ = _
              have hej2 : ks[j] = .mk k1 a1 b1 c1 d1 t1 ks1 := by rw [List.getElem?_eq_getElem hjk] at hej; exact Option.some.inj hej
              rw [HD.out, txL_map, txL_map, hej2]
              unfold strX
              simp
            have hbl := brk_len (.mk k1 a1 b1 c1 d1 t1 ks1) 2 (txE (.mk k1 a1 b1 c1 d1 t1 ks1))
            generalize brk (.mk k1 a1 b1 c1 d1 t1 ks1) 2 (txE (.mk k1 a1 b1 c1 d1 t1 ks1)) = F at HCall HSN hbl
            have hj0 : (0 : Int) ≤ (j : Int) := by omega
            have hj1 : (j : Int) < (ks.length : Int) := by omega
            clear hS hx1 HD hk1 hej hmem
            have hwo := hwr.alloc hwr.size (.cells #[.int .i64 k1, .int .u64 a1, .int .u64 b1, .int .u64 c1, .int .u64 d1, .string t1, .slice A1 ks1.length cp1] 27)
            go_wp2_with fail
            refine (HCall.out _ hwo).mono ?_
            rintro e w2 ⟨rfl, hb2⟩
            have hw2 : Below w.heap.size w w2 := hwo.trans (hb2.mono hwo.size)
            have hs2 := hb2.size
            have hsa : (wr.alloc (.cells #[.int .i64 k1, .int .u64 a1, .int .u64 b1, .int .u64 c1, .int .u64 d1, .string t1, .slice A1 ks1.length cp1] 27)).heap.size = wr.heap.size + 1 := by simp
            rw [hsa] at hs2
            have hown3 := own_below (HOWN.out.alloc _) hb2
            have hsw := hw2.size
            clear hb2 HOWN hsa
            go_wp2_with (at_builtin; refine wpList_append_lies _ rfl _ _ _ rfl (w.heap.size + 1) 9 i0 _ 1 16 Tryd.underlying74 hi0 hz0' hz1' hz2' rfl (by omega) (.slice V j vp) j _ rfl (hown3.alloc _) ⟨w2.heap.size, 0, none⟩ 1 1 [.string ⟨F.toArray⟩] rfl rfl (World.news_of_block (cs := #[.string ⟨F.toArray⟩]) (t := 9) (fr := (0, 0)) (heap_alloc_new w2 _)) (by intro u hu; simp at hu; subst hu; rfl) (by omega) (by unfold maxLen; omega) (by omega) (by simp; omega) _ rfl ?_; intro g3 cap w3 hown4 hgrow hat hlt)
            go_roundw
            case rel =>
              refine ⟨j + 1, by omega, by go_num, ⟨_, cap, rfl, ?_⟩, below_app (hw2.alloc hsw _) (hown3.alloc _) hgrow (by simp; omega) (by omega), by have := hgrow.size; simp at this; omega⟩
              show World.ownsRow _ _ _ _ _ _ _
              rw [HSN.out]
              exact hown4
            case measure => simp [intOf]; omega
          · obtain rfl : j = ks.length := by omega
            have hta : ks.take ks.length = ks := List.take_length
            rw [hta] at HOWN
            obtain ⟨g, cq, hv, hgb, hgl⟩ := HOWN.out.form (by omega)
            simp only [Value.slice.injEq, true_and] at hv
            obtain ⟨rfl, rfl⟩ := hv
            have hcap : ks.length ≤ vp := by
              rcases HOWN.out.2 with ⟨e, e2⟩ | ⟨g', c', cur, e, _, _, e1, e2, _⟩
              · cases e
              · simp only [Value.slice.injEq] at e
                rw [e.2.2]
                exact e1
            have hxl : ((txL 2 ks).map fun x => (⟨x.toArray⟩ : ByteArray)).length = ks.length := by rw [List.length_map, txL_len]
            have hmm : (((txL 2 ks).map fun x => (⟨x.toArray⟩ : ByteArray)).map (·.data.toList)) = txL 2 ks := by simp [List.map_map, Function.comp_def]
            have hjl := HJL.out
            have HJ := sh_strings_Join g 0 vp ((txL 2 ks).map fun x => (⟨x.toArray⟩ : ByteArray)) ⟨#[32, 47, 32]⟩ wr (fun k x hx => by
              have := HOWN.out.cells (g := g) rfl k (.string x) (by unfold strX; rw [List.getElem?_map] at hx ⊢; rw [Option.map_eq_some_iff] at hx ⊢; obtain ⟨y, h1, rfl⟩ := hx; exact ⟨y, h1, rfl⟩)
              rwa [cell_atX] at this) hgl (by omega) (by omega) (by rw [hmm]; show (Lib.join (txL 2 ks) [32, 47, 32]).length ≤ _; omega)
            rw [hxl, hmm] at HJ
            have hsp : (ByteArray.mk #[32, 47, 32]).data.toList = [32, 47, 32] := rfl
            rw [hsp] at HJ
            generalize Lib.join (txL 2 ks) [32, 47, 32] = JJ at HJ HT hjl
            replace HJ := Lib.hid HJ
            clear hxl hmm hjl hsp
            go_wp2_with fail
            refine (HJ.out).mono ?_
            rintro e w2 ⟨rfl, hb2⟩
            go_wp2
            go_ret
            exact ⟨by rw [HT.out]; rfl, hwr.trans (hb2.mono hwr.size)⟩
    · obtain ⟨e0, rfl⟩ : ∃ e0, ks = [e0] := by
        match ks, hn1 with
        | [e0], _ => exact ⟨e0, rfl⟩
      obtain ⟨ad, k1, a1, b1, c1, d1, t1, ks1, A1, cp1, rfl, hab, hej, hx1, hS⟩ := hx.kid (j := 0) (by simp)
      have he0 : e0 = .mk k1 a1 b1 c1 d1 t1 ks1 := by simpa using hej
      subst he0
      simp only [List.length_singleton] at hbw hbx x0 x1 x2 x3 x4 x5 x6 ⊢
      have hn0 : nodes (.mk k1 a1 b1 c1 d1 t1 ks1) ≤ 60 := by
        rw [nodes, nodesAll, nodesAll] at hn
        omega
      have hR1 := hks _ (.head _)
      have HD := Lib.hid (ih _ (.head _) hR1 hn0)
      have hl1 := tx_len _ hR1
      have HW := Lib.hid (fun W least (hW : Below w.heap.size w W) => within_any2 HD.out (by omega) least k1 a1 b1 c1 d1 t1 ks1 A1 cp1 W rfl (hx1.grow hW) (hTab.below hW hpos))
      have hbl := fun least => brk_len (.mk k1 a1 b1 c1 d1 t1 ks1) least (txE (.mk k1 a1 b1 c1 d1 t1 ks1))
      replace hS : Seven w ad k1 a1 b1 c1 d1 t1 A1 ks1.length cp1 := hS
      have hk1 := fun (q : Addr) (hq : q.block = ad.block) => hbw.cell (p := q) (by rw [hq]; exact hab)
      have y0 := (hk1 _ rfl).trans hS.c0
      have y1 := (hk1 ⟨_, _, none⟩ rfl).trans hS.c1
      have y2 := (hk1 ⟨_, _, none⟩ rfl).trans hS.c2
      have y3 := (hk1 ⟨_, _, none⟩ rfl).trans hS.c3
      have y4 := (hk1 ⟨_, _, none⟩ rfl).trans hS.c4
      have y5 := (hk1 ⟨_, _, none⟩ rfl).trans hS.c5
      have y6 := (hk1 ⟨_, _, none⟩ rfl).trans hS.c6
      rcases (show k = 7 ∨ k = 8 ∨ k = 9 ∨ k = 10 ∨ k = 11 by omega) with rfl | rfl | rfl | rfl | rfl
      · skip
        simp only [Int.reduceEq, if_false, if_true, txL, flat_one] at hT
        have HT := Lib.hid hT
        have hbl4 := hbl 4
        have HW4 := Lib.hid (fun W hW => HW.out W 4 hW)
        rw [show ((4 : Nat) : Int) = 4 from rfl] at HW4
        generalize brk (.mk k1 a1 b1 c1 d1 t1 ks1) 4 (txE (.mk k1 a1 b1 c1 d1 t1 ks1)) = S at HT HW4 hbl4
        clear hT ih hks hx hz hz1 HW hx1 hS hk1
        go_enter Tryd.func28, Tryd.ntmps28
        go_wp2_with fail
        refine (HW4.out _ hbw).mono ?_
        rintro r w1 ⟨rfl, hb1⟩
        have n1 : ¬ 9223372036854775807 < S.length + 1 := by omega
        go_wp2
        go_ret
        exact ⟨by rw [HT.out, ← str_app2]; rfl, hbw.trans (hb1.mono hbw.size)⟩
      · skip
        simp only [Int.reduceEq, if_false, if_true, txL, flat_one] at hT
        have HT := Lib.hid hT
        have hbl4 := hbl 4
        have HW4 := Lib.hid (fun W hW => HW.out W 4 hW)
        rw [show ((4 : Nat) : Int) = 4 from rfl] at HW4
        generalize brk (.mk k1 a1 b1 c1 d1 t1 ks1) 4 (txE (.mk k1 a1 b1 c1 d1 t1 ks1)) = S at HT HW4 hbl4
        clear hT ih hks hx hz hz1 HW hx1 hS hk1
        go_enter Tryd.func28, Tryd.ntmps28
        go_wp2_with fail
        refine (HW4.out _ hbw).mono ?_
        rintro r w1 ⟨rfl, hb1⟩
        have n1 : ¬ 9223372036854775807 < S.length + 1 := by omega
        go_wp2
        go_ret
        exact ⟨by rw [HT.out, ← str_app2]; rfl, hbw.trans (hb1.mono hbw.size)⟩
      · skip
        simp only [Int.reduceEq, if_false, if_true, txL, flat_one] at hT
        have HT := Lib.hid hT
        have hbl4 := hbl 4
        have HW4 := Lib.hid (fun W hW => HW.out W 4 hW)
        rw [show ((4 : Nat) : Int) = 4 from rfl] at HW4
        generalize brk (.mk k1 a1 b1 c1 d1 t1 ks1) 4 (txE (.mk k1 a1 b1 c1 d1 t1 ks1)) = S at HT HW4 hbl4
        clear hT ih hks hx hz hz1 HW hx1 hS hk1
        go_enter Tryd.func28, Tryd.ntmps28
        go_wp2_with fail
        refine (HW4.out _ hbw).mono ?_
        rintro r w1 ⟨rfl, hb1⟩
        have n1 : ¬ 9223372036854775807 < S.length + 1 := by omega
        go_wp2
        go_ret
        exact ⟨by rw [HT.out, ← str_app2]; rfl, hbw.trans (hb1.mono hbw.size)⟩
      · skip
        simp only [Int.reduceEq, if_false, if_true, txL, flat_one] at hT
        have HT := Lib.hid hT
        have hbl3 := hbl 3
        have HW3 := Lib.hid (fun W hW => HW.out W 3 hW)
        rw [show ((3 : Nat) : Int) = 3 from rfl] at HW3
        generalize brk (.mk k1 a1 b1 c1 d1 t1 ks1) 3 (txE (.mk k1 a1 b1 c1 d1 t1 ks1)) = S at HT HW3 hbl3
        clear hT ih hks hx hz hz1 HW hx1 hS hk1
        go_enter Tryd.func28, Tryd.ntmps28
        go_wp2_with fail
        refine (HW3.out _ hbw).mono ?_
        rintro r w1 ⟨rfl, hb1⟩
        have n1 : ¬ 9223372036854775807 < 1 + S.length := by omega
        go_wp2
        go_ret
        exact ⟨by rw [HT.out, show (38 :: S : List UInt8) = [38] ++ S from rfl, ← str_app2]; rfl, hbw.trans (hb1.mono hbw.size)⟩
      · skip
        simp only [Int.reduceEq, if_false, if_true, txL, flat_one] at hT
        have HT := Lib.hid hT
        have hbl3 := hbl 3
        have HW3 := Lib.hid (fun W hW => HW.out W 3 hW)
        rw [show ((3 : Nat) : Int) = 3 from rfl] at HW3
        generalize brk (.mk k1 a1 b1 c1 d1 t1 ks1) 3 (txE (.mk k1 a1 b1 c1 d1 t1 ks1)) = S at HT HW3 hbl3
        clear hT ih hks hx hz hz1 HW hx1 hS hk1
        go_enter Tryd.func28, Tryd.ntmps28
        go_wp2_with fail
        refine (HW3.out _ hbw).mono ?_
        rintro r w1 ⟨rfl, hb1⟩
        have n1 : ¬ 9223372036854775807 < 1 + S.length := by omega
        go_wp2
        go_ret
        exact ⟨by rw [HT.out, show (33 :: S : List UInt8) = [33] ++ S from rfl, ← str_app2]; rfl, hbw.trans (hb1.mono hbw.size)⟩
end Go.Proofs.YtndhbdbfjkmloaaDoor
namespace Go.Proofs.YtndhbdbfjkmloaaDoor
open Go.RowKit

/-- what Print answers -/
def prT (e : Ex) : List UInt8 := if checkE e = 0 then txE e else []
def PrQ (e : Ex) (w : World) (r : Ending) (w' : World) : Prop := r = .returned (.tuple #[.string ⟨(prT e).toArray⟩, .int .i64 (checkE e)]) ∧ Below w.heap.size w w'
set_option maxRecDepth 100000 in
set_option maxHeartbeats 4000000 in
theorem print_any (e : Ex) (hw : WfE e) (k a b c d : Int) (t : ByteArray) (ks : List Ex) (A : Option Addr) (cp : Nat) (w : World) (he : e = .mk k a b c d t ks) (hx : ExIs w w.heap.size e (exCells k a b c d t A ks.length cp)) (hTab : TabAt w) :
    Calls Tryd.prog 12 #[.agg #[.int .i64 k, .int .u64 a, .int .u64 b, .int .u64 c, .int .u64 d, .string t, .slice A ks.length cp]] w (PrQ e w) := by
  have hbx : Blk (w.alloc (.cells #[.int .i64 k, .int .u64 a, .int .u64 b, .int .u64 c, .int .u64 d, .string t, .slice A ks.length cp] 27)) w.heap.size 27 #[.int .i64 k, .int .u64 a, .int .u64 b, .int .u64 c, .int .u64 d, .string t, .slice A ks.length cp] := blk_at rfl
  have hbw : Below w.heap.size w (w.alloc (.cells #[.int .i64 k, .int .u64 a, .int .u64 b, .int .u64 c, .int .u64 d, .string t, .slice A ks.length cp] 27)) := (by repeat (first | exact Below.refl _ _ | assumption | refine Below.drew ?_ | refine below_drewN ?_ _ | refine Below.alloc ?_ (by first | omega | (simp; omega) | simp) _ | refine Below.setCell ?_ (by first | omega | (simp; omega) | simp) _))
  have HCK := Lib.hid (fun W (hW : Below w.heap.size w W) => check_expr e _ W (hx.grow hW))
  have hpos := hTab.pos
  by_cases h0 : checkE e = 0
  · have HTX := Lib.hid (fun W (hW : Below w.heap.size w W) => text_any e (rt_of hw h0) (nodes_leX h0) k a b c d t ks A cp W he (hx.grow hW) (hTab.below hW hpos))
    have HQ : Hid (∀ w', Below w.heap.size w w' → PrQ e w (.returned (.tuple #[.string ⟨(txE e).toArray⟩, .int .i64 0])) w') := fun w' hb => ⟨by unfold prT; rw [if_pos h0, h0], hb⟩
    rw [h0] at HCK
    unfold exCells at HCK
    generalize PrQ e w = Q at HQ ⊢
    generalize txE e = T at HTX HQ
    clear he hx h0 hw
    go_enter Tryd.func12, Tryd.ntmps12
    go_wp2_with fail
    refine (HCK.out _ hbw).mono ?_
    rintro r w1 ⟨rfl, hb1'⟩
    have hb1 := hbw.trans (hb1'.mono hbw.size)
    have hbx1 := hbx.below hb1' (by simp)
    have x0 := hbx1.cell 0
    have x1 := hbx1.cell 1
    have x2 := hbx1.cell 2
    have x3 := hbx1.cell 3
    have x4 := hbx1.cell 4
    have x5 := hbx1.cell 5
    have x6 := hbx1.cell 6
    clear hb1' hbx hbx1
    go_wp2_with fail
    refine (HTX.out _ hb1).mono ?_
    rintro r w2 ⟨rfl, hb2⟩
    go_wp2
    exact HQ.out _ (hb1.trans (hb2.mono hb1.size))
  · have HQ : Hid (∀ w', Below w.heap.size w w' → PrQ e w (.returned (.tuple #[.string ⟨#[]⟩, .int .i64 (checkE e)])) w') := fun w' hb => ⟨by unfold prT; rw [if_neg h0], hb⟩
    unfold exCells at HCK
    generalize PrQ e w = Q at HQ ⊢
    generalize checkE e = x at HCK HQ h0
    have hx0 : (x != 0) = true := by rw [bne_iff_ne]; exact h0
    clear he hx h0 hw
    go_enter Tryd.func12, Tryd.ntmps12
    go_wp2_with fail
    refine (HCK.out _ hbw).mono ?_
    rintro r w1 ⟨rfl, hb1'⟩
    have hb1 := hbw.trans (hb1'.mono hbw.size)
    go_wp2
    exact HQ.out _ hb1
def refA : Ex := .mk 4 0 0 0 0 ⟨#[97]⟩ []
theorem refA_check : checkE refA = 0 := by decide +kernel
theorem refA_wf : WfE refA := .mk _ _ _ _ _ _ _ (by unfold I64; omega) (by unfold U64; omega) (by unfold U64; omega) (by unfold U64; omega) (by unfold U64; omega) (fun e he => by cases he)
theorem refA_text : prT refA = [97] := by decide +kernel
set_option maxRecDepth 100000 in
set_option maxHeartbeats 4000000 in
theorem walk_ShowApart (e f : Ex) (ce cf : List Value) (w : World) (he : ExIs w w.heap.size e ce) (hf : ExIs w w.heap.size f cf) (we : WfE e) (wf : WfE f) (hTab : TabAt w) :
    Calls Tryd.prog 3 #[.agg ce.toArray, .agg cf.toArray] w fun r w' => r = .returned (.bool true) ∧ Below w.heap.size w w' := by
  obtain ⟨k, a, b, c, d, t, ks, A, cp, rfl, rfl⟩ : ∃ k a b c d t ks A cp, e = .mk k a b c d t ks ∧ ce = exCells k a b c d t A ks.length cp := by
    cases he with
    | mk k a b c d t ks A cp => exact ⟨k, a, b, c, d, t, ks, A, cp, rfl, rfl⟩
  obtain ⟨k2, a2, b2, c2, d2, t2, ks2, A2, cp2, rfl, rfl⟩ : ∃ k a b c d t ks A cp, f = .mk k a b c d t ks ∧ cf = exCells k a b c d t A ks.length cp := by
    cases hf with
    | mk k a b c d t ks A cp => exact ⟨k, a, b, c, d, t, ks, A, cp, rfl, rfl⟩
  have hpos := hTab.pos
  have H0 := Lib.hid (fun W (hW : Below w.heap.size w W) => print_any refA refA_wf 4 0 0 0 0 ⟨#[97]⟩ [] none 0 W rfl (refE_is W ⟨#[97]⟩ (by decide)) (hTab.below hW hpos))
  have H1 := Lib.hid (fun W (hW : Below w.heap.size w W) => print_any (.mk k a b c d t ks) we k a b c d t ks A cp W rfl (he.grow hW) (hTab.below hW hpos))
  have H2 := Lib.hid (fun W (hW : Below w.heap.size w W) => print_any (.mk k2 a2 b2 c2 d2 t2 ks2) wf k2 a2 b2 c2 d2 t2 ks2 A2 cp2 W rfl (hf.grow hW) (hTab.below hW hpos))
  unfold exCells
  go_enter Tryd.func3, Tryd.ntmps3
  have hz0 : ((w.alloc (.cells #[.int .i64 k, .int .u64 a, .int .u64 b, .int .u64 c, .int .u64 d, .string t, .slice A ks.length cp] 27)).alloc (.cells #[.int .i64 k2, .int .u64 a2, .int .u64 b2, .int .u64 c2, .int .u64 d2, .string t2, .slice A2 ks2.length cp2] 27)).heap.size = w.heap.size + 1 + 1 := by simp
  have hbe : Blk ((w.alloc (.cells #[.int .i64 k, .int .u64 a, .int .u64 b, .int .u64 c, .int .u64 d, .string t, .slice A ks.length cp] 27)).alloc (.cells #[.int .i64 k2, .int .u64 a2, .int .u64 b2, .int .u64 c2, .int .u64 d2, .string t2, .slice A2 ks2.length cp2] 27)) w.heap.size 27 #[.int .i64 k, .int .u64 a, .int .u64 b, .int .u64 c, .int .u64 d, .string t, .slice A ks.length cp] := (blk_at rfl).alloc _
  have hbf : Blk ((w.alloc (.cells #[.int .i64 k, .int .u64 a, .int .u64 b, .int .u64 c, .int .u64 d, .string t, .slice A ks.length cp] 27)).alloc (.cells #[.int .i64 k2, .int .u64 a2, .int .u64 b2, .int .u64 c2, .int .u64 d2, .string t2, .slice A2 ks2.length cp2] 27)) (w.heap.size + 1) 27 #[.int .i64 k2, .int .u64 a2, .int .u64 b2, .int .u64 c2, .int .u64 d2, .string t2, .slice A2 ks2.length cp2] := blk_at (by simp)
  have hb0 : Below w.heap.size w ((w.alloc (.cells #[.int .i64 k, .int .u64 a, .int .u64 b, .int .u64 c, .int .u64 d, .string t, .slice A ks.length cp] 27)).alloc (.cells #[.int .i64 k2, .int .u64 a2, .int .u64 b2, .int .u64 c2, .int .u64 d2, .string t2, .slice A2 ks2.length cp2] 27)) := ((Below.refl _ _).alloc (Nat.le_refl _) _).alloc (by simp) _
  go_wp2_with fail
  refine (H0.out _ hb0).mono ?_
  rintro r w1 ⟨h, hb1'⟩
  rw [refA_text, refA_check] at h
  subst h
  have hb1 := hb0.trans (hb1'.mono (by omega))
  have hbe1 := hbe.below hb1' (by omega)
  have hbf1 := hbf.below hb1' (by omega)
  have hs1 := hb1'.size
  rw [hz0] at hs1
  have x0 := hbe1.cell 0
  have x1 := hbe1.cell 1
  have x2 := hbe1.cell 2
  have x3 := hbe1.cell 3
  have x4 := hbe1.cell 4
  have x5 := hbe1.cell 5
  have x6 := hbe1.cell 6
  clear hb1' hbe hbf hz0 hb0
  go_wp2_with fail
  refine (H1.out _ hb1).mono ?_
  rintro r w2 ⟨rfl, hb2'⟩
  have hb2 := hb1.trans (hb2'.mono (by omega))
  have hbe2 := hbe1.below hb2' (by omega)
  have hbf2 := hbf1.below hb2' (by omega)
  have hs2 := hb2'.size
  have y0 := hbf2.cell 0
  have y1 := hbf2.cell 1
  have y2 := hbf2.cell 2
  have y3 := hbf2.cell 3
  have y4 := hbf2.cell 4
  have y5 := hbf2.cell 5
  have y6 := hbf2.cell 6
  clear hb2' hbe1 hbf1 x0 x1 x2 x3 x4 x5 x6
  go_wp2_with fail
  refine (H2.out _ hb2).mono ?_
  rintro r w3 ⟨rfl, hb3'⟩
  have hb3 := hb2.trans (hb3'.mono (by omega))
  have hbe3 := hbe2.below hb3' (by omega)
  have hbf3 := hbf2.below hb3' (by omega)
  have HSX := Lib.hid (samex_any (.mk k a b c d t ks) _ _ _ w3 (he.grow hb3) (hf.grow hb3))
  have x0 := hbe3.cell 0
  have x1 := hbe3.cell 1
  have x2 := hbe3.cell 2
  have x3 := hbe3.cell 3
  have x4 := hbe3.cell 4
  have x5 := hbe3.cell 5
  have x6 := hbe3.cell 6
  have z0 := hbf3.cell 0
  have z1 := hbf3.cell 1
  have z2 := hbf3.cell 2
  have z3 := hbf3.cell 3
  have z4 := hbf3.cell 4
  have z5 := hbf3.cell 5
  have z6 := hbf3.cell 6
  clear hb3' hbe2 hbf2 y0 y1 y2 y3 y4 y5 y6 H0 H1 H2
  have HEQ : Hid (checkE (.mk k a b c d t ks) = 0 → checkE (.mk k2 a2 b2 c2 d2 t2 ks2) = 0 → ((⟨(prT (.mk k a b c d t ks)).toArray⟩ : ByteArray) = ⟨(prT (.mk k2 a2 b2 c2 d2 t2 ks2)).toArray⟩ ↔ (Ex.mk k a b c d t ks) = .mk k2 a2 b2 c2 d2 t2 ks2)) := fun h1 h2 => by
    unfold prT
    rw [if_pos h1, if_pos h2]
    refine ⟨fun h => tx_inj (rt_of we h1) (rt_of wf h2) ?_, fun h => by rw [h]⟩
    injection h with h
    have := congrArg Array.toList h
    simpa using this
  unfold exCells at HSX
  generalize (⟨(prT (.mk k a b c d t ks)).toArray⟩ : ByteArray) = S at HEQ ⊢
  generalize (⟨(prT (.mk k2 a2 b2 c2 d2 t2 ks2)).toArray⟩ : ByteArray) = S2 at HEQ ⊢
  generalize checkE (.mk k a b c d t ks) = cx at HEQ ⊢
  generalize checkE (.mk k2 a2 b2 c2 d2 t2 ks2) = cy at HEQ ⊢
  have HSM : Hid (cx = 0 → cy = 0 → (S.toList == S2.toList) = isB (Ex.mk k a b c d t ks = .mk k2 a2 b2 c2 d2 t2 ks2)) := fun h1 h2 => by
    rw [Bool.eq_iff_iff, isB_iff, beq_iff_eq, ByteArray.toList_eq, ByteArray.toList_eq, ← HEQ.out h1 h2]
    exact ⟨bytes_eq, fun h => by rw [h]⟩
  generalize isB (Ex.mk k a b c d t ks = .mk k2 a2 b2 c2 d2 t2 ks2) = sm at HSX HSM
  clear he hf we wf
  by_cases h1 : cx = 0
  · by_cases h2 : cy = 0
    · subst h1 h2
      have hsm := HSM.out rfl rfl
      go_wp2_with fail
      refine HSX.out.mono ?_
      rintro r w4 ⟨rfl, hb4⟩
      have hsb : (sm == sm) = true := beq_self_eq_true sm
      go_wp2
      go_ret
      exact ⟨rfl, hb3.trans (hb4.mono hb3.size)⟩
    · have hc2 : (cy != 0) = true := by rw [bne_iff_ne]; exact h2
      subst h1
      go_wp2
      go_ret
      exact ⟨rfl, hb3⟩
  · have hc1 : (cx != 0) = true := by rw [bne_iff_ne]; exact h1
    go_wp2
    go_ret
    exact ⟨rfl, hb3⟩
end Go.Proofs.YtndhbdbfjkmloaaDoor
namespace Go.Proofs.YtndhbdbfjkmloaaDoor
open Go.RowKit

/-- what gram.Print answers -/
def prG (g : List Rl) : List UInt8 := if checkG g = 0 then txG g else []
def PrGQ (g : List Rl) (w : World) (r : Ending) (w' : World) : Prop := r = .returned (.tuple #[.string ⟨(prG g).toArray⟩, .int .i64 (checkG g)]) ∧ Below w.heap.size w w'
theorem txG_snoc : ∀ (g : List Rl) (r : Rl), txG (g ++ [r]) = txG g ++ txR r
  | [], r => by simp [txG]
  | x :: g, r => by
    show txR x ++ txG (g ++ [r]) = (txR x ++ txG g) ++ txR r
    rw [txG_snoc g r, List.append_assoc]
theorem takeG {g : List Rl} {j : Nat} {r : Rl} (h : g[j]? = some r) : txG (g.take (j + 1)) = txG (g.take j) ++ txR r := by
  rw [take_succ_of h, txG_snoc]
theorem cat_rule (O nm : ByteArray) (T : List UInt8) (e : Ex) (hT : T = txE e) (X : List UInt8) (hO : O.data.toList = X) :
    (O ++ (nm ++ ⟨#[32, 60, 45, 32]⟩ ++ ⟨T.toArray⟩ ++ ⟨#[10]⟩)).data.toList = X ++ txR (nm, e) := by
  subst hT hO
  unfold txR
  simp
theorem list_back {O : ByteArray} {l : List UInt8} (h : O.data.toList = l) : O = ⟨l.toArray⟩ := by
  rw [← h, text_back]
set_option maxRecDepth 100000 in
set_option maxHeartbeats 4000000 in
theorem gprint_any (g : List Rl) (hw : ∀ r ∈ g, WfE r.2) (A : Option Addr) (cp : Nat) (row : Nat → List Value) (w : World) (h : GrIs w w.heap.size g A cp row) (hTab : TabAt w) :
    Calls Tryd.prog 17 #[.agg #[.slice A g.length cp]] w (PrGQ g w) := by
  have hpos := hTab.pos
  have HCK := Lib.hid (fun W (hW : Below w.heap.size w W) => gcheck_any ((h.on hW).more hW.size))
  have HG := Lib.hid h
  have HTB := Lib.hid hTab
  have hb0 : Below w.heap.size w (w.alloc (.cells #[.slice A g.length cp] 39)) := (by repeat (first | exact Below.refl _ _ | assumption | refine Below.drew ?_ | refine below_drewN ?_ _ | refine Below.alloc ?_ (by first | omega | (simp; omega) | simp) _ | refine Below.setCell ?_ (by first | omega | (simp; omega) | simp) _))
  have hbx : Blk (w.alloc (.cells #[.slice A g.length cp] 39)) w.heap.size 39 #[.slice A g.length cp] := blk_at rfl
  clear hTab
  by_cases h0 : checkG g = 0
  · have hok := rtG_of hw h0
    have HOK := Lib.hid hok
    have hgl : g.length ≤ 10 := hok.2.2.1
    have HQ : Hid (∀ w', Below w.heap.size w w' → PrGQ g w (.returned (.tuple #[.string ⟨(txG g).toArray⟩, .int .i64 0])) w') := fun w' hb => ⟨by unfold prG; rw [if_pos h0, h0], hb⟩
    rw [h0] at HCK
    have HW := Lib.hid hw
    generalize PrGQ g w = Q at HQ ⊢
    clear h hok h0 hw
    go_enter Tryd.func17, Tryd.ntmps17
    go_wp2_with fail
    refine (HCK.out _ hb0).mono ?_
    generalize (w.alloc (.cells #[.slice A g.length cp] 39)) = wa at hb0 hbx ⊢
    rintro r w1 ⟨rfl, hb1'⟩
    have hb1 := hb0.trans (hb1'.mono hb0.size)
    have hbx1 := hbx.below hb1' hbx.lt
    clear hb0 hbx hb1'
    have y0 := hbx1.cell 0
    go_wp2_with fail
    go_loopw [5, 18] (fun o i wr => ∃ (j : Nat) (O : ByteArray), j ≤ g.length ∧ i = .int .i64 j ∧ o = .string O ∧ Hid (O.data.toList = txG (g.take j)) ∧ O.size ≤ j * 200000 ∧ Below w.heap.size w wr) (fun _ i _ => g.length - (intOf i).toNat)
    case atStart => exact ⟨0, ⟨#[]⟩, by omega, rfl, rfl, (by rfl : (⟨#[]⟩ : ByteArray).data.toList = txG (g.take 0)), (by show (0 : Nat) ≤ 0 * 200000; omega), hb1⟩
    case round =>
      obtain ⟨j, O, hj, rfl, rfl, HO, hOs, hwr⟩ := hrel
      by_cases hjk : j < g.length
      · obtain ⟨ad, nm, k', a', b', c', d', t', ks', A', cp', rfl, hab, hej, hnm, hE, ⟨e0, e1, e2, e3, e4, e5, e6, e7⟩⟩ := (HG.out.on hwr).rule hjk
        have hwz := hwr.size
        have hmem := List.mem_of_getElem? hej
        obtain ⟨hnb0, hrt0⟩ := HOK.out.1 _ hmem
        have hnb : nameB nm.data.toList = true := hnb0
        have hrt : Rtx (.mk k' a' b' c' d' t' ks') := hrt0
        have hck0 : checkE (.mk k' a' b' c' d' t' ks') = 0 := HOK.out.2.2.2 _ hmem
        clear hnb0 hrt0
        have hnl := name_len hnb
        have hns : nm.size ≤ 8 := by rw [← size_list]; exact hnl
        have htl := tx_len _ hrt
        have hnd := nodes_leX hck0
        have hT1 : (txE (.mk k' a' b' c' d' t' ks')).length ≤ 180000 := by omega
        have hpr := fun W (hW : Below wr.heap.size wr W) => print_any (.mk k' a' b' c' d' t' ks') (HW.out _ hmem) k' a' b' c' d' t' ks' A' cp' W rfl ((hE.on (hW.mono hwz)).keep (Nat.le_trans hwz hW.size) fun _ _ => rfl) (HTB.out.below (hwr.trans (hW.mono hwz)) hpos)
        unfold PrQ prT at hpr
        rw [if_pos hck0, hck0] at hpr
        have HPR := Lib.hid hpr
        have HEJ := Lib.hid (takeG hej)
        have HTS : Hid ((⟨(txE (.mk k' a' b' c' d' t' ks')).toArray⟩ : ByteArray).size = (txE (.mk k' a' b' c' d' t' ks')).length) := sz_arr _
        have HTT := Lib.hid (show txE (.mk k' a' b' c' d' t' ks') = txE (.mk k' a' b' c' d' t' ks') from rfl)
        generalize hTe : txE (.mk k' a' b' c' d' t' ks') = T at HPR hT1 HTS
        have HTE := Lib.hid hTe.symm
        clear hE hej hpr hnb hrt hck0 hnl htl hnd hTe hmem HTT
        have hbr := (Below.refl wr.heap.size wr).alloc (Nat.le_refl _) (.cells #[.string nm, .int .i64 k', .int .u64 a', .int .u64 b', .int .u64 c', .int .u64 d', .string t', .slice A' ks'.length cp'] 71)
        have hxr : Blk (wr.alloc (.cells #[.string nm, .int .i64 k', .int .u64 a', .int .u64 b', .int .u64 c', .int .u64 d', .string t', .slice A' ks'.length cp'] 71)) wr.heap.size 71 #[.string nm, .int .i64 k', .int .u64 a', .int .u64 b', .int .u64 c', .int .u64 d', .string t', .slice A' ks'.length cp'] := blk_at rfl
        go_upto_region 8 with fail
        generalize (wr.alloc (.cells #[.string nm, .int .i64 k', .int .u64 a', .int .u64 b', .int .u64 c', .int .u64 d', .string t', .slice A' ks'.length cp'] 71)) = wn at hbr hxr ⊢
        generalize hrb : wr.heap.size = rb at hxr ⊢
        have x0 : wn.cell? ⟨rb, 0, none⟩ = some (.string nm) := hxr.cell 0; have x1 : wn.cell? ⟨rb, 1, none⟩ = some (.int .i64 k') := hxr.cell 1; have x2 : wn.cell? ⟨rb, 2, none⟩ = some (.int .u64 a') := hxr.cell 2; have x3 : wn.cell? ⟨rb, 3, none⟩ = some (.int .u64 b') := hxr.cell 3; have x4 : wn.cell? ⟨rb, 4, none⟩ = some (.int .u64 c') := hxr.cell 4; have x5 : wn.cell? ⟨rb, 5, none⟩ = some (.int .u64 d') := hxr.cell 5; have x6 : wn.cell? ⟨rb, 6, none⟩ = some (.string t') := hxr.cell 6; have x7 : wn.cell? ⟨rb, 7, none⟩ = some (.slice A' ks'.length cp') := hxr.cell 7
        rw [hrb] at hwz
        have hbr2 := hbr
        rw [hrb] at hbr2
        clear e0 e1 e2 e3 e4 e5 e6 e7
        go_wp2_with fail
        refine (HPR.out _ hbr).mono ?_
        rintro r w2 ⟨rfl, hb2⟩
        have hxr2 := hxr.below hb2 hxr.lt
        have hw2 : Below w.heap.size w w2 := hwr.trans (hbr.trans (hb2.mono hbr.size) |>.mono (by rw [hrb]; exact hwz))
        have x0' := hxr2.cell 0
        clear x0 x1 x2 x3 x4 x5 x6 x7 hxr hb2 hbr hbr2 hrb HPR
        have hts : (⟨T.toArray⟩ : ByteArray).size ≤ 180000 := by rw [HTS.out]; exact hT1
        have HCT := Lib.hid (fun (X : List UInt8) (hX : O.data.toList = X) => cat_rule O nm T (.mk k' a' b' c' d' t' ks') HTE.out X hX)
        generalize (⟨T.toArray⟩ : ByteArray) = S at HCT hts ⊢
        clear HTS HTE hT1
        have hj10 : j ≤ 10 := by omega
        have n1 : ¬ 9223372036854775807 < nm.size + 4 := by omega
        have n2 : ¬ 9223372036854775807 < nm.size + 4 + S.size := by omega
        have n3 : ¬ 9223372036854775807 < nm.size + 4 + S.size + 1 := by omega
        have n4 : ¬ 9223372036854775807 < O.size + (nm.size + 4 + S.size + 1) := by omega
        go_wp2
        go_roundw
        case rel =>
          refine ⟨j + 1, _, by omega, by go_num, rfl, ?_, ?_, hw2⟩
          · show _ = _
            rw [HEJ.out]
            exact HCT.out _ HO.out
          · have h4 : (⟨#[32, 60, 45, 32]⟩ : ByteArray).size = 4 := rfl
            have h5 : (⟨#[10]⟩ : ByteArray).size = 1 := rfl
            simp only [ByteArray.size_append, h4, h5]
            omega
        case measure => simp [intOf]; omega
      · obtain rfl : j = g.length := by omega
        have hOe : O = ⟨(txG g).toArray⟩ := by
          have := HO.out
          rw [List.take_length] at this
          exact list_back this
        have HOE := Lib.hid hOe
        clear hOe HO
        go_wp2
        rw [HOE.out]
        exact HQ.out _ hwr
  · have HQ : Hid (∀ w', Below w.heap.size w w' → PrGQ g w (.returned (.tuple #[.string ⟨#[]⟩, .int .i64 (checkG g)])) w') := fun w' hb => ⟨by unfold prG; rw [if_neg h0], hb⟩
    generalize PrGQ g w = Q at HQ ⊢
    generalize checkG g = x at HCK HQ h0
    have hx0 : (x != 0) = true := by rw [bne_iff_ne]; exact h0
    clear h h0 hw hbx
    go_enter Tryd.func17, Tryd.ntmps17
    go_wp2_with fail
    refine (HCK.out _ hb0).mono ?_
    rintro r w1 ⟨rfl, hb1'⟩
    have hb1 := hb0.trans (hb1'.mono hb0.size)
    go_wp2
    exact HQ.out _ hb1
end Go.Proofs.YtndhbdbfjkmloaaDoor
namespace Go.Proofs.YtndhbdbfjkmloaaDoor
open Go.RowKit

set_option maxRecDepth 100000 in
set_option maxHeartbeats 4000000 in
theorem samer_any {nm nm' : ByteArray} {e f : Ex} {k a b c d k0 a0 b0 c0 d0 : Int} {t t0 : ByteArray} {A A0 : Option Addr} {n cp n0 cp0 : Nat} {w : World} (he : ExIs w w.heap.size e (exCells k a b c d t A n cp)) (hf : ExIs w w.heap.size f (exCells k0 a0 b0 c0 d0 t0 A0 n0 cp0)) :
    Calls Tryd.prog 38 #[.agg #[.string nm, .int .i64 k, .int .u64 a, .int .u64 b, .int .u64 c, .int .u64 d, .string t, .slice A n cp], .agg #[.string nm', .int .i64 k0, .int .u64 a0, .int .u64 b0, .int .u64 c0, .int .u64 d0, .string t0, .slice A0 n0 cp0]] w fun r w' => r = .returned (.bool (isB ((nm, e) = (nm', f)))) ∧ Below w.heap.size w w' := by
  have hcall := fun (W : World) (hW : Below w.heap.size w W) => samex_any e f _ _ W (he.grow hW) (hf.grow hW)
  unfold exCells at hcall
  have HCall := Lib.hid hcall
  have ht := toList_eq_iff nm nm'
  clear hcall he hf
  by_cases h3 : nm.data.toList = nm'.data.toList
  · have h4 := bytes_eq h3
    have hx : isB ((nm, e) = (nm', f)) = isB (e = f) := by
      subst h4
      by_cases h5 : e = f
      · rw [isB_yes h5, isB_yes (by rw [h5])]
      · rw [isB_no h5, isB_no fun x => by injection x with _ x; exact h5 x]
    rw [hx]
    rw [decide_eq_true h3] at ht
    generalize isB (e = f) = x at HCall
    clear h3 h4 hx
    go_enter Tryd.func38, Tryd.ntmps38
    go_wp2_with fail
    refine (HCall.out _ (by repeat (first | exact Below.refl _ _ | assumption | refine Below.drew ?_ | refine below_drewN ?_ _ | refine Below.alloc ?_ (by first | omega | (simp; omega) | simp) _ | refine Below.setCell ?_ (by first | omega | (simp; omega) | simp) _))).mono ?_
    rintro e w2 ⟨rfl, hb2⟩
    have hw2 : Below w.heap.size w w2 := Below.trans (by repeat (first | exact Below.refl _ _ | assumption | refine Below.drew ?_ | refine below_drewN ?_ _ | refine Below.alloc ?_ (by first | omega | (simp; omega) | simp) _ | refine Below.setCell ?_ (by first | omega | (simp; omega) | simp) _)) (hb2.mono (by first | omega | (simp; omega) | simp)); have hzw2 := hw2.size; clear hb2
    go_wp2
    go_ret
    exact ⟨rfl, hw2⟩
  · rw [decide_eq_false h3] at ht
    rw [isB_no fun x => by injection x with x1 x2; exact h3 (by rw [x1])]
    clear h3
    go_enter Tryd.func38, Tryd.ntmps38
    go_wp2
    go_ret
    exact ⟨rfl, (by repeat (first | exact Below.refl _ _ | assumption | refine Below.drew ?_ | refine below_drewN ?_ _ | refine Below.alloc ?_ (by first | omega | (simp; omega) | simp) _ | refine Below.setCell ?_ (by first | omega | (simp; omega) | simp) _))⟩

set_option maxRecDepth 100000 in
set_option maxHeartbeats 4000000 in
theorem equalR_any {g h : List Rl} {A A' : Option Addr} {cp cp' : Nat} {row row' : Nat → List Value} {w : World} (hg : GrIs w w.heap.size g A cp row) (hh : GrIs w w.heap.size h A' cp' row') :
    Calls Tryd.prog 37 #[.slice A g.length cp, .slice A' h.length cp', .func (.func 38) #[] #[]] w fun r w' => r = .returned (.bool (isB (g = h))) ∧ Below w.heap.size w w' := by
  have hmx := hg.cap
  have hmn := hg.le
  unfold maxLen at hmx
  have H1 := Lib.hid hg
  have H2 := Lib.hid hh
  clear hg hh
  by_cases hnn : g.length = h.length
  · obtain ⟨n, hn⟩ : ∃ n, g.length = n := ⟨_, rfl⟩
    have hn' : h.length = n := by omega
    rw [hn'] at ⊢
    rw [hn] at hmn ⊢
    clear hnn
    go_enter Tryd.func37, Tryd.ntmps37
    go_wp2
    go_loopw [7, 8, 9, 17] (fun _ _ _ i wr => ∃ j : Nat, j ≤ n ∧ i = .int .i64 j ∧ Hid (g.take j = h.take j) ∧ Below w.heap.size w wr) (fun _ _ _ i _ => n - (intOf i).toNat)
    case atStart => exact ⟨0, by omega, rfl, rfl, Below.refl _ _⟩
    case round =>
      obtain ⟨j, hj, rfl, HR, hwr⟩ := hrel
      have hwz := hwr.size
      by_cases hjn : j < n
      · obtain ⟨ad, nm1, k1, a1, b1, c1, d1, t1, ks1, A1, cp1, rfl, hab, hej, -, hx, hS⟩ := H1.out.rule (j := j) (by omega)
        obtain ⟨ad', nm2, k2, a2, b2, c2, d2, t2, ks2, A2, cp2, rfl, hab', hej', -, hx', hS'⟩ := H2.out.rule (j := j) (by omega)
        have hk := fun (q : Addr) (hq : q.block = (ad.add (j * 8)).block) => hwr.cell (p := q) (by rw [hq, add_block]; omega)
        have y0 := (hk _ rfl).trans hS.c0
        have y1 := (hk ⟨_, _, none⟩ rfl).trans hS.c1
        have y2 := (hk ⟨_, _, none⟩ rfl).trans hS.c2
        have y3 := (hk ⟨_, _, none⟩ rfl).trans hS.c3
        have y4 := (hk ⟨_, _, none⟩ rfl).trans hS.c4
        have y5 := (hk ⟨_, _, none⟩ rfl).trans hS.c5
        have y6 := (hk ⟨_, _, none⟩ rfl).trans hS.c6
        have y7 := (hk ⟨_, _, none⟩ rfl).trans hS.c7
        have hk' := fun (q : Addr) (hq : q.block = (ad'.add (j * 8)).block) => hwr.cell (p := q) (by rw [hq, add_block]; omega)
        have x0 := (hk' _ rfl).trans hS'.c0
        have x1 := (hk' ⟨_, _, none⟩ rfl).trans hS'.c1
        have x2 := (hk' ⟨_, _, none⟩ rfl).trans hS'.c2
        have x3 := (hk' ⟨_, _, none⟩ rfl).trans hS'.c3
        have x4 := (hk' ⟨_, _, none⟩ rfl).trans hS'.c4
        have x5 := (hk' ⟨_, _, none⟩ rfl).trans hS'.c5
        have x6 := (hk' ⟨_, _, none⟩ rfl).trans hS'.c6
        have x7 := (hk' ⟨_, _, none⟩ rfl).trans hS'.c7
        have hcall : ∀ W : World, Below w.heap.size w W → Calls Tryd.prog 38 #[.agg #[.string nm1, .int .i64 k1, .int .u64 a1, .int .u64 b1, .int .u64 c1, .int .u64 d1, .string t1, .slice A1 ks1.length cp1], .agg #[.string nm2, .int .i64 k2, .int .u64 a2, .int .u64 b2, .int .u64 c2, .int .u64 d2, .string t2, .slice A2 ks2.length cp2]] W fun r w' => r = .returned (.bool (isB ((nm1, Ex.mk k1 a1 b1 c1 d1 t1 ks1) = (nm2, .mk k2 a2 b2 c2 d2 t2 ks2)))) ∧ Below W.heap.size W w' := fun W hW =>
          samer_any (hx.grow hW) (hx'.grow hW)
        have HCall := Lib.hid hcall
        have HEJ := Lib.hid hej
        have HEJ' := Lib.hid hej'
        have hba : (ad.add (j * 8)).block < wr.heap.size := by rw [add_block]; omega
        have hba' : (ad'.add (j * 8)).block < wr.heap.size := by rw [add_block]; omega
        clear hcall hk hk' hS hS' hx hx' hej hej'
        by_cases heq : (nm1, Ex.mk k1 a1 b1 c1 d1 t1 ks1) = (nm2, .mk k2 a2 b2 c2 d2 t2 ks2)
        · have HEQ := Lib.hid heq
          have hxx := isB_yes heq
          rw [hxx] at HCall
          clear heq hxx
          go_wp2_with fail
          refine (HCall.out _ (by repeat (first | exact Below.refl _ _ | assumption | refine Below.drew ?_ | refine below_drewN ?_ _ | refine Below.alloc ?_ (by first | omega | (simp; omega) | simp) _ | refine Below.setCell ?_ (by first | omega | (simp; omega) | simp) _))).mono ?_
          rintro e w2 ⟨rfl, hb2⟩
          have hw2 : Below w.heap.size w w2 := Below.trans (by repeat (first | exact Below.refl _ _ | assumption | refine Below.drew ?_ | refine below_drewN ?_ _ | refine Below.alloc ?_ (by first | omega | (simp; omega) | simp) _ | refine Below.setCell ?_ (by first | omega | (simp; omega) | simp) _)) (hb2.mono (by first | omega | (simp; omega) | simp))
          clear hb2
          go_wp2
          go_roundw
          case rel => exact ⟨j + 1, by omega, by go_num, by show _ = _; rw [take_succ_of HEJ.out, take_succ_of HEJ'.out, HR.out, HEQ.out], hw2⟩
          case measure => simp [intOf]; omega
        · have hne : g ≠ h := fun e => heq (by have h1 := HEJ.out; rw [e, HEJ'.out] at h1; injection h1 with h1; exact h1.symm)
          have hxx := isB_no heq
          have hxy := isB_no hne
          rw [hxx] at HCall
          have HXY := Lib.hid hxy
          clear heq hxx hxy hne
          go_wp2_with fail
          refine (HCall.out _ (by repeat (first | exact Below.refl _ _ | assumption | refine Below.drew ?_ | refine below_drewN ?_ _ | refine Below.alloc ?_ (by first | omega | (simp; omega) | simp) _ | refine Below.setCell ?_ (by first | omega | (simp; omega) | simp) _))).mono ?_
          rintro e w2 ⟨rfl, hb2⟩
          have hw2 : Below w.heap.size w w2 := Below.trans (by repeat (first | exact Below.refl _ _ | assumption | refine Below.drew ?_ | refine below_drewN ?_ _ | refine Below.alloc ?_ (by first | omega | (simp; omega) | simp) _ | refine Below.setCell ?_ (by first | omega | (simp; omega) | simp) _)) (hb2.mono (by first | omega | (simp; omega) | simp))
          clear hb2
          go_wp2
          go_ret
          exact ⟨ret_bool HXY.out.symm, hw2⟩
      · obtain rfl : j = n := by omega
        have hxy : isB (g = h) = true := isB_yes (by have := HR.out; rwa [List.take_of_length_le (by omega), List.take_of_length_le (by omega)] at this)
        have HXY := Lib.hid hxy
        clear hxy
        go_wp2
        go_ret
        exact ⟨ret_bool HXY.out.symm, hwr⟩
  · have hxy : isB (g = h) = false := isB_no fun e => hnn (by rw [e])
    have hb : ((g.length : Int) != (h.length : Int)) = true := by rw [bne_iff_ne]; omega
    rw [hxy]
    clear hxy hnn
    go_enter Tryd.func37, Tryd.ntmps37
    go_wp2
    go_ret
    exact ⟨rfl, Below.refl _ _⟩

set_option maxRecDepth 100000 in
theorem sameg_any {g h : List Rl} {A A' : Option Addr} {cp cp' : Nat} {row row' : Nat → List Value} {w : World} (hg : GrIs w w.heap.size g A cp row) (hh : GrIs w w.heap.size h A' cp' row') :
    Calls Tryd.prog 19 #[.agg #[.slice A g.length cp], .agg #[.slice A' h.length cp']] w fun r w' => r = .returned (.bool (isB (g = h))) ∧ Below w.heap.size w w' := by
  have hcall := fun (W : World) (hW : Below w.heap.size w W) => equalR_any (w := W) (hg.grow hW) (hh.grow hW)
  have HCall := Lib.hid hcall
  clear hcall hg hh
  generalize isB (g = h) = x at HCall
  go_enter Tryd.func19, Tryd.ntmps19
  go_wp2_with fail
  refine (HCall.out _ (by repeat (first | exact Below.refl _ _ | assumption | refine Below.drew ?_ | refine below_drewN ?_ _ | refine Below.alloc ?_ (by first | omega | (simp; omega) | simp) _ | refine Below.setCell ?_ (by first | omega | (simp; omega) | simp) _))).mono ?_
  rintro e w2 ⟨rfl, hb2⟩
  have hw2 : Below w.heap.size w w2 := Below.trans (by repeat (first | exact Below.refl _ _ | assumption | refine Below.drew ?_ | refine below_drewN ?_ _ | refine Below.alloc ?_ (by first | omega | (simp; omega) | simp) _ | refine Below.setCell ?_ (by first | omega | (simp; omega) | simp) _)) (hb2.mono (by first | omega | (simp; omega) | simp)); have hzw2 := hw2.size; clear hb2
  go_wp2
  go_ret
  exact ⟨rfl, hw2⟩
end Go.Proofs.YtndhbdbfjkmloaaDoor
