/- The walk of chaffref.Nodes. -/
import Derived.Test.YtphfckihdhmhpaaNdA
import Derived.Test.YtphfckihdhmhpaaGH
namespace Go.Proofs.Ytphfckihdhmhpaa
open Go.RowKit Go.Maps

set_option maxRecDepth 100000 in
set_option maxHeartbeats 8000000 in
theorem nodesB_any {e : Ex} (h0 : checkE e = 0) {cs : List Value} {B : Nat} {w : World} (hB : B ≤ w.heap.size) (he : ExIs w B e cs) : Calls Try.prog 34 #[.agg cs.toArray] w (NodesQB B e w) := by
  have hD := look_D e 0 1 h0
  have h60 := nodes_le h0
  obtain ⟨k, a, b, c, d, t, A, n, cp, rfl⟩ := e.parts he
  obtain ⟨i0, hi0, hz0, hz1, hz2⟩ := info_parts node_info
  have HE := Lib.hid he
  have HD := Lib.hid hD
  clear he hD h0
  go_enter Try.func34, Try.ntmps34
  go_wp2
  have hst : NdI B e w none 0 (some ⟨w.heap.size + 1, 0, none⟩) 1 [] [(e, 1, exCells k a b c d t A n cp)] ((w.alloc (.cells #[.int .i64 k, .int .u64 a, .int .u64 b, .int .u64 c, .int .u64 d, .string t, .slice A n cp] 34)).alloc (.cells #[.int .i64 k, .int .u64 a, .int .u64 b, .int .u64 c, .int .u64 d, .string t, .slice A n cp, .int .i64 1] 126)) := by
    refine ⟨(by repeat (first | exact Below.refl _ _ | assumption | refine Below.drew ?_ | refine below_drewN ?_ _ | refine Below.alloc ?_ (by first | omega | (simp; omega) | simp) _ | refine Below.setCell ?_ (by first | omega | (simp; omega) | simp) _)), by simp [ndK], fun r hr => (by cases hr), fun r hr => (by simp at hr; rw [hr]; exact HE.out), World.ownsRow_nil _ _ _ _, ⟨fun _ => ⟨_, rfl, by simp, (by intro e; cases e), fun j u hu => ?_⟩⟩, Nat.le_refl _⟩
    have hb : Blk ((w.alloc (.cells #[.int .i64 k, .int .u64 a, .int .u64 b, .int .u64 c, .int .u64 d, .string t, .slice A n cp] 34)).alloc (.cells #[.int .i64 k, .int .u64 a, .int .u64 b, .int .u64 c, .int .u64 d, .string t, .slice A n cp, .int .i64 1] 126)) (w.heap.size + 1) 126 #[.int .i64 k, .int .u64 a, .int .u64 b, .int .u64 c, .int .u64 d, .string t, .slice A n cp, .int .i64 1] := blk_at (by simp)
    rw [cell_add]
    exact (hb.cell j).trans (by rw [List.getElem?_toArray]; simpa [ndF, ndC, exCells] using hu)
  have HST := Lib.hid hst
  clear hst
  go_loopw [3, 4] (fun v3 v4 wr => ∃ (out wait : List Nde) (Vo : Option Addr) (co : Nat) (Vw : Option Addr) (cw : Nat), v3 = .slice Vo out.length co ∧ v4 = .slice Vw wait.length cw ∧ NdI B e w Vo co Vw cw out wait wr) (fun v3 _ _ => 61 - lenV v3)
  case atStart => exact ⟨[], [_], _, _, _, _, rfl, rfl, HST.out⟩
  case round =>
    obtain ⟨out, wait, Vo, co, Vw, cw, rfl, rfl, hI⟩ := hrel
    have hlen := hI.len
    cases wait with
    | nil =>
      have heq := hI.eq
      simp at heq
      have hown := hI.own
      have hok := hI.okO
      have hbw := hI.bel
      have HQ : Hid (NodesQB B e w (.returned (.slice Vo out.length co)) wr) := ⟨hbw, Vo, co, out, rfl, heq, hok, hown⟩
      clear hI heq hown hok
      simp only [List.length_nil] at *
      go_wp2
      go_ret
      exact HQ.out
    | cons r rest =>
      obtain ⟨x, dp, xc⟩ := r
      obtain ⟨ad, k1, a1, b1, c1, d1, t1, ks, A1, cp1, rfl, hab, hx1, hx2, hx, hS, hc7, hrest⟩ := hI.rd.head hI.okW
      simp only at hx1 hx2 hc7
      subst hx1 hx2
      have hmem : (Ex.mk k1 a1 b1 c1 d1 t1 ks, dp) ∈ preD e 1 := by
        rw [← hI.eq, List.map_cons, List.flatMap_cons, preD_eq]
        exact List.mem_append_right _ (by simp [ndK])
      obtain ⟨hdp, hk8⟩ := HD.out _ hmem
      simp only [kidsN] at hdp hk8
      simp only [List.length_cons] at hlen ⊢
      obtain ⟨y0, y1, y2, y3, y4, y5, y6⟩ := hS
      have hol : out.length ≤ 59 := by omega
      have holi : (out.length : Int) < 61 := by omega
      have hpos : (0 : Int) < ((rest.length : Int) + 1) := by omega
      have hzr := hI.bel.size
      have hk8i : (ks.length : Int) ≤ 8 := by omega
      have hdpi : (dp : Int) ≤ 12 := by omega
      have hnews := newN (wr.alloc (.cells #[.int .i64 k1, .int .u64 a1, .int .u64 b1, .int .u64 c1, .int .u64 d1, .string t1, .slice A1 ks.length cp1, .int .i64 dp] 126)) 126 [.int .i64 k1, .int .u64 a1, .int .u64 b1, .int .u64 c1, .int .u64 d1, .string t1, .slice A1 ks.length cp1, .int .i64 dp]
      have hbAB : Below wr.heap.size wr ((wr.alloc (.cells #[.int .i64 k1, .int .u64 a1, .int .u64 b1, .int .u64 c1, .int .u64 d1, .string t1, .slice A1 ks.length cp1, .int .i64 dp] 126)).alloc (.cells #[.int .i64 k1, .int .u64 a1, .int .u64 b1, .int .u64 c1, .int .u64 d1, .string t1, .slice A1 ks.length cp1, .int .i64 dp] 126)) := (by repeat (first | exact Below.refl _ _ | assumption | refine Below.drew ?_ | refine below_drewN ?_ _ | refine Below.alloc ?_ (by first | omega | (simp; omega) | simp) _ | refine Below.setCell ?_ (by first | omega | (simp; omega) | simp) _))
      have hsAB : ((wr.alloc (.cells #[.int .i64 k1, .int .u64 a1, .int .u64 b1, .int .u64 c1, .int .u64 d1, .string t1, .slice A1 ks.length cp1, .int .i64 dp] 126)).alloc (.cells #[.int .i64 k1, .int .u64 a1, .int .u64 b1, .int .u64 c1, .int .u64 d1, .string t1, .slice A1 ks.length cp1, .int .i64 dp] 126)).heap.size = wr.heap.size + 2 := by simp
      have hxb : Blk ((wr.alloc (.cells #[.int .i64 k1, .int .u64 a1, .int .u64 b1, .int .u64 c1, .int .u64 d1, .string t1, .slice A1 ks.length cp1, .int .i64 dp] 126)).alloc (.cells #[.int .i64 k1, .int .u64 a1, .int .u64 b1, .int .u64 c1, .int .u64 d1, .string t1, .slice A1 ks.length cp1, .int .i64 dp] 126)) wr.heap.size 126 #[.int .i64 k1, .int .u64 a1, .int .u64 b1, .int .u64 c1, .int .u64 d1, .string t1, .slice A1 ks.length cp1, .int .i64 dp] := (blk_at rfl).alloc _
      have hownB := own_below hI.own hbAB
      have hrestB := hrest.below hbAB
      have hold : ∀ q, (Value.slice Vo out.length co).ownBlock = some q → q < wr.heap.size := fun q hq => (hI.own.lt q hq).2
      have HI := Lib.hid hI
      have HX := Lib.hid hx
      have HREST := Lib.hid hrestB
      have HOLD := Lib.hid hold
      clear hI hx hrest hrestB hold
      go_wp2_with (at_builtin; refine wpList_append_own_at _ rfl _ _ _ rfl w.heap.size 126 i0 _ 8 88 Try.underlying69 hi0 hz0 hz1 hz2 rfl (by decide) _ out.length _ rfl hownB ⟨wr.heap.size + 1, 0, none⟩ 1 1 [.int .i64 k1, .int .u64 a1, .int .u64 b1, .int .u64 c1, .int .u64 d1, .string t1, .slice A1 ks.length cp1, .int .i64 dp] rfl rfl (by simpa using hnews) (by simp [Value.oneCell']) (by unfold maxLen; omega) (by omega) (by omega) ?_; intro v' w3 hown3 hgr3 _ hat3; obtain ⟨V3, c3, rfl⟩ := own_form hown3; have hxb3 := hxb.grown hgr3 (fun e => by have := HOLD.out _ e.symm; omega); have x0 := hxb3.cell 0; have x6 := hxb3.cell 6; have x7 := hxb3.cell 7; simp at x0 x6 x7)
      have hrest3 : NdR w3 (Value.slice V3 (out.length + 1) c3).ownBlock (some (ad.add 8)) rest := HREST.out.keep hgr3 hat3
      have hw3 : Below w.heap.size w w3 := below_app (HI.out.bel.trans (hbAB.mono hzr)) hownB hgr3 (by omega) (Nat.le_refl _)
      have hx3 := HX.out
      have hkid := fun (j : Nat) (hj : j < ks.length) => hx3.kid hj
      have hkr : ∀ q : Addr, q.block < w.heap.size → w3.cell? q = w.cell? q := fun q hq => hw3.cell hq
      have H3 := Lib.hid hown3
      have HR3 := Lib.hid hrest3
      have HKID := Lib.hid hkid
      have hxl3 := hxb3.lt
      have hz3 := hw3.size
      have hsl3 := hgr3.size
      clear hkid hx3 hown3 hgr3 hat3 hownB hbAB hnews hrest3 y0 y1 y2 y3 y4 y5 y6 hc7 hxb x0 x6 hkr
      go_loopw [6, 41] (fun v6 i ws => ∃ (j : Nat) (nl : List Nde) (Vn : Option Addr) (cn : Nat), j ≤ ks.length ∧ i = .int .i64 j ∧ v6 = .slice Vn nl.length cn ∧ nl.length = j ∧ Hid (nl.map ndK = (ks.take j).map fun e => (e, dp + 1)) ∧ NdOkB B w nl ∧ ws.ownsRow w3.heap.size 126 8 (.slice Vn nl.length cn) nl.length (ndF nl) ∧ Below w3.heap.size w3 ws) (fun _ i _ => ks.length - (intOf i).toNat)
      case atStart => exact ⟨0, [], none, 0, by omega, rfl, rfl, rfl, rfl, fun r hr => (by cases hr), World.ownsRow_nil _ _ _ _, Below.refl _ _⟩
      case round =>
        obtain ⟨j, nl, Vn, cn, hj, rfl, rfl, hnl, HNL, hnok, hnown, h3r⟩ := hrel
        have hzs := h3r.size
        have hxs := hxb3.below h3r hxl3
        have x7 : wr.cell? ⟨_, 7, none⟩ = some (.int .i64 dp) := hxs.cell 7
        by_cases hjn : j < ks.length
        · obtain ⟨ad2, k2, a2, b2, c2, d2, t2, ks2, A2, cp2, rfl, hab2, hej, hx2, hS⟩ := HKID.out j hjn
          have hbw := hw3.trans (h3r.mono hz3)
          have hk := fun (q : Addr) (hq : q.block = (ad2.add (j * 7)).block) => hbw.cell (p := q) (by rw [hq, add_block]; omega)
          have y0 := (hk _ rfl).trans hS.c0
          have y1 := (hk ⟨_, _, none⟩ rfl).trans hS.c1
          have y2 := (hk ⟨_, _, none⟩ rfl).trans hS.c2
          have y3 := (hk ⟨_, _, none⟩ rfl).trans hS.c3
          have y4 := (hk ⟨_, _, none⟩ rfl).trans hS.c4
          have y5 := (hk ⟨_, _, none⟩ rfl).trans hS.c5
          have y6 := (hk ⟨_, _, none⟩ rfl).trans hS.c6
          have had1 : ad2.block < wr.heap.size := by omega
          have hxsl := hxs.lt
          have hjl : (j : Int) < (ks.length : Int) := by omega
          have hnews := newN (wr.alloc (.cells #[.int .i64 k2, .int .u64 a2, .int .u64 b2, .int .u64 c2, .int .u64 d2, .string t2, .slice A2 ks2.length cp2] 34)) 126 [.int .i64 k2, .int .u64 a2, .int .u64 b2, .int .u64 c2, .int .u64 d2, .string t2, .slice A2 ks2.length cp2, .int .i64 ((dp : Int) + 1)]
          have hnb := (own_below hnown ((Below.refl _ wr).alloc (Nat.le_refl _) (.cells #[.int .i64 k2, .int .u64 a2, .int .u64 b2, .int .u64 c2, .int .u64 d2, .string t2, .slice A2 ks2.length cp2] 34)))
          have hnown2 := own_below hnb ((Below.refl _ _).alloc (Nat.le_refl _) (.cells #[.int .i64 k2, .int .u64 a2, .int .u64 b2, .int .u64 c2, .int .u64 d2, .string t2, .slice A2 ks2.length cp2, .int .i64 ((dp : Int) + 1)] 126))
          have h3r2 : Below w3.heap.size w3 ((wr.alloc (.cells #[.int .i64 k2, .int .u64 a2, .int .u64 b2, .int .u64 c2, .int .u64 d2, .string t2, .slice A2 ks2.length cp2] 34)).alloc (.cells #[.int .i64 k2, .int .u64 a2, .int .u64 b2, .int .u64 c2, .int .u64 d2, .string t2, .slice A2 ks2.length cp2, .int .i64 ((dp : Int) + 1)] 126)) := (by repeat (first | exact Below.refl _ _ | assumption | refine Below.drew ?_ | refine below_drewN ?_ _ | refine Below.alloc ?_ (by first | omega | (simp; omega) | simp) _ | refine Below.setCell ?_ (by first | omega | (simp; omega) | simp) _))
          have HEJ := Lib.hid hej
          have HX2 := Lib.hid hx2
          have HNO := Lib.hid hnok
          clear hk hS hej hx2 hnb hnok
          go_wp2_with (at_builtin; refine wpList_append_own _ rfl _ _ _ rfl w3.heap.size 126 i0 _ 8 88 Try.underlying69 hi0 hz0 hz1 hz2 rfl (by decide) _ nl.length _ rfl hnown2 ⟨wr.heap.size + 1, 0, none⟩ 1 1 [.int .i64 k2, .int .u64 a2, .int .u64 b2, .int .u64 c2, .int .u64 d2, .string t2, .slice A2 ks2.length cp2, .int .i64 ((dp : Int) + 1)] rfl rfl (by simpa using hnews) (by simp [Value.oneCell']) (by unfold maxLen; omega) (by omega) (by simp; omega) ?_; intro v' w4 hown4 hgr4 _; obtain ⟨V4, c4, rfl⟩ := own_form hown4)
          go_roundw
          case rel =>
            refine ⟨j + 1, nl ++ [(.mk k2 a2 b2 c2 d2 t2 ks2, dp + 1, exCells k2 a2 b2 c2 d2 t2 A2 ks2.length cp2)], V4, c4, by omega, by go_num, ?_, by simp [hnl], ?_, ?_, ?_, ?_⟩
            · rw [List.length_append, hnl]; rfl
            · show _ = _
              rw [List.map_append, HNL.out, take_succ_of HEJ.out, List.map_append]
              rfl
            · exact HNO.out.app fun r hr => by simp at hr; rw [hr]; exact HX2.out
            · rw [List.length_append, ndF_app]
              exact hown4
            · exact below_app h3r2 hnown2 hgr4 (by simp; omega) (Nat.le_refl _)
          case measure => simp [intOf]; omega
        · obtain rfl : j = ks.length := by omega
          have hnll : nl.map ndK = ks.map fun e => (e, dp + 1) := by have := HNL.out; rwa [List.take_length] at this
          have hresti := (HR3.out.below h3r)
          have hbw := hw3.trans (h3r.mono hz3)
          have hI := HI.out
          have hok3 : NdOkB B w rest := fun r hr => hI.okW r (by simp [hr])
          have hox : NdOkB B w (out ++ [((.mk k1 a1 b1 c1 d1 t1 ks : Ex), dp, exCells k1 a1 b1 c1 d1 t1 A1 ks.length cp1)]) := hI.okO.app fun r hr => by simp at hr; rw [hr]; exact HX.out
          have heq2 : (out ++ [((.mk k1 a1 b1 c1 d1 t1 ks : Ex), dp, exCells k1 a1 b1 c1 d1 t1 A1 ks.length cp1)]).map ndK ++ ((nl ++ rest).map ndK).flatMap (fun x => preD x.1 x.2) = preD e 1 := by
            have h1 := hI.eq
            rw [List.map_cons, List.flatMap_cons, preD_eq] at h1
            rw [← h1, List.map_append, List.map_append, hnll, List.flatMap_append, ← preDs_map]
            simp [ndK, kidsN]
          have hcap := hI.cap
          have hnn : nl.length ≤ 8 := by omega
          have hrl : rest.length ≤ 60 := by omega
          have hown5 : wr.ownsRow w.heap.size 126 8 (.slice V3 (out.length + 1) c3) (out.length + 1) (ndF (out ++ [((.mk k1 a1 b1 c1 d1 t1 ks : Ex), dp, exCells k1 a1 b1 c1 d1 t1 A1 ks.length cp1)])) := by
            rw [ndF_app]
            exact own_below H3.out h3r
          have hold3 : ∀ q, (Value.slice V3 (out.length + 1) c3).ownBlock = some q → q < w3.heap.size := fun q hq => (H3.out.lt q hq).2
          simp only [List.length_cons] at hcap
          have hncell : ∀ j u, (ndF rest)[j]? = some u → wr.cell? ((ad.add 8).add j) = some u := fun j u hu => by
            have h1 := getElem?_lt hu
            rw [ndF_len hok3] at h1
            obtain ⟨ad', e1, _, _, e2⟩ := hresti.lies (by omega)
            injection e1 with e1
            subst e1
            exact e2 j u hu
          have hnl8 := ndF_len hok3
          have hn1 := ndF_one hok3
          have hcwi : (rest.length : Int) + 1 ≤ (cw : Int) := by omega
          have hfin : ∀ (V5 : Option Addr) (c5 : Nat) (w5 : World), w5.ownsRow w3.heap.size 126 8 (.slice V5 (nl.length + rest.length) c5) (nl.length + rest.length) (ndF nl ++ ndF rest) → wr.grownBy w5 (Value.slice Vn nl.length cn).ownBlock →
              NdI B e w V3 c3 V5 c5 (out ++ [((.mk k1 a1 b1 c1 d1 t1 ks : Ex), dp, exCells k1 a1 b1 c1 d1 t1 A1 ks.length cp1)]) (nl ++ rest) w5 := fun V5 c5 w5 ho hg => by
            have hl1 : (out ++ [((.mk k1 a1 b1 c1 d1 t1 ks : Ex), dp, exCells k1 a1 b1 c1 d1 t1 A1 ks.length cp1)]).length = out.length + 1 := by simp
            have hl2 : (nl ++ rest).length = nl.length + rest.length := List.length_append
            have h5 : Below w3.heap.size w3 w5 := below_app h3r hnown hg (by omega) (Nat.le_refl _)
            refine ⟨hw3.trans (h5.mono hz3), heq2, hox, hnok.app hok3, ?_, ?_, ?_⟩
            · rw [hl1, ndF_app]
              exact own_below H3.out h5
            · rw [hl1]
              exact NdR.of_own (base := w3.heap.size) (c := c5) (by rw [hl2, ndF_app]; exact ho) hold3
            · rw [hl2]
              have h6 : nl.length + rest.length ≤ c5 := by
                rcases ho.2 with ⟨q1, q2⟩ | ⟨g1, cap, cur, hv, q3, q4, q5, _⟩
                · injection q1 with _ q1 q2; omega
                · injection hv with _ hv1 hv2; omega
              exact h6
          have HFIN := Lib.hid hfin
          clear hfin heq2 hox hnok hnll hresti HR3 H3 HI HREST HKID hI HX hown5 hok3
          have hlV : ∀ V5 c5, lenV (Value.slice V5 (out.length + 1) c5) = out.length + 1 := fun _ _ => rfl
          have hlW : ∀ V5 c5, lenV (Value.slice V5 out.length c5) = out.length := fun _ _ => rfl
          by_cases hcw : cw = 1
          · subst hcw
            obtain rfl : rest = [] := List.eq_nil_of_length_eq_zero (by omega)
            have hf := HFIN.out
            simp only [List.length_nil, Nat.add_zero, Nat.zero_add, List.append_nil] at hf ⊢
            have HF2 := Lib.hid hf
            clear hf HFIN hlV hlW hcap hlen hrl hcwi hnl8 hncell hn1
            have he0 : ndF [] = [] := rfl
            rw [he0, List.append_nil] at HF2
            clear he0
            go_wp2_with (at_builtin; refine wpList_append_own _ rfl _ _ _ rfl w3.heap.size 126 i0 _ 8 88 Try.underlying69 hi0 hz0 hz1 hz2 rfl (by decide) _ nl.length _ rfl hnown ad 0 0 [] rfl rfl (fun j u hu => by simp at hu) (fun u hu => by cases hu) (by unfold maxLen; omega) (by omega) (by omega) ?_; intro v' w5 hown6 hgr6 _; obtain ⟨V5, c5, rfl⟩ := own_form hown6)
            rw [List.append_nil, Nat.add_zero] at hown6
            refine ⟨⟨out ++ [((.mk k1 a1 b1 c1 d1 t1 ks : Ex), dp, exCells k1 a1 b1 c1 d1 t1 A1 ks.length cp1)], nl, V3, c3, V5, c5, by simp, by simp [hnl], HF2.out V5 c5 w5 hown6 hgr6⟩, by simp [lenV]; omega⟩
          · have hcw2 : (1 : Int) < (cw : Int) := by omega
            go_wp2_with (at_builtin; refine wpList_append_own _ rfl _ _ _ rfl w3.heap.size 126 i0 _ 8 88 Try.underlying69 hi0 hz0 hz1 hz2 rfl (by decide) _ nl.length _ rfl hnown (ad.add 8) rest.length (cw - 1) (ndF rest) rfl hnl8 hncell hn1 (by unfold maxLen; omega) (by omega) (by omega) ?_; intro v' w5 hown6 hgr6 _; obtain ⟨V5, c5, rfl⟩ := own_form hown6)
            refine ⟨⟨out ++ [((.mk k1 a1 b1 c1 d1 t1 ks : Ex), dp, exCells k1 a1 b1 c1 d1 t1 A1 ks.length cp1)], nl ++ rest, V3, c3, V5, c5, by simp, by simp [hnl], HFIN.out V5 c5 w5 hown6 hgr6⟩, by simp [lenV]; omega⟩
theorem nodes_any {e : Ex} (h0 : checkE e = 0) {cs : List Value} {w : World} (he : ExIs w w.heap.size e cs) : Calls Try.prog 34 #[.agg cs.toArray] w (NodesQ e w) := nodesB_any h0 (Nat.le_refl _) he
end Go.Proofs.Ytphfckihdhmhpaa
