/- The walk of the law TopCover. -/
import Derived.Test.YtphfckihdhmhpaaTcA
import Derived.Test.YtphfckihdhmhpaaGdC
import Derived.Test.YtphfckihdhmhpaaCov1
import Derived.Deep.DeepCutAuto
namespace Go.Proofs.Ytphfckihdhmhpaa
open Go.RowKit Go.Maps

theorem irow_info : (Try.prog.info? 63).map (fun i => (i.zero, i.size, i.bytes)) = some (some (.slice none 0 0), 1, 24) := by kernel_rfl
theorem take_str {w : World} {B n m : Nat} {A : Option Addr} {l : List ByteArray} (h : Reads w B 1 A n (l.map Value.string)) (hn : l.length = n) (hm : m ≤ n) : Reads w B 1 A m ((l.take m).map Value.string) := by
  refine ⟨by rw [List.length_map, List.length_take]; omega, fun h0 => ?_⟩
  obtain ⟨ad, e, hb, hc⟩ := h.lies (by omega)
  refine ⟨ad, e, hb, fun j u hu => hc j u ?_⟩
  have hj : j < m := by have := getElem?_lt hu; rw [List.length_map, List.length_take] at this; omega
  rw [List.getElem?_map] at hu ⊢
  rwa [List.getElem?_take_of_lt hj] at hu
theorem cover_facts {g : List Rl} {s : ByteArray} (h0 : lookG g s = 0) : 0 < (preLs (bodies g)).length ∧ (preLs (bodies g)).length ≤ 120 := by
  obtain ⟨W, -⟩ := look_zero h0
  refine ⟨?_, by rw [← nodesC_len]; exact W.right.nodes⟩
  obtain ⟨r, hr⟩ : ∃ r, g[0]? = some r := ⟨_, List.getElem?_eq_getElem W.right.pos⟩
  rw [preLs_len]
  have := nodesAll_take (ks := bodies g) (j := 0) (y := r.2) (by unfold bodies; rw [List.getElem?_map, hr]; rfl)
  have h1 : 1 ≤ nodes r.2 := by rw [nodes_eq]; omega
  omega

set_option maxRecDepth 100000 in
set_option maxHeartbeats 1000000 in
theorem walk_TopCover {g : List Rl} {A : Option Addr} {cp : Nat} {row : Nat → List Value} {texts : List ByteArray} {AT : Option Addr} {ct : Nat} (w : World) (hg : GrIs w w.heap.size g A cp row) (hwf : ∀ r ∈ g, WfE r.2) (hT : Reads w w.heap.size 1 AT texts.length (texts.map Value.string)) (hct : texts.length ≤ ct) (hcm : ct ≤ maxLen) :
    Calls Try.prog 7 #[.agg #[.slice A g.length cp], .slice AT texts.length ct] w fun e w' => e = .returned (.bool true) ∧ Below w.heap.size w w' := by
  obtain ⟨i0, hi0, hz0, hz1, hz2⟩ := info_parts irow_info
  obtain ⟨i1, hi1, hy0, hy1, hy2⟩ := info_parts int_info
  unfold maxLen at hcm
  obtain ⟨T, hTT, hTL⟩ : ∃ T, T = texts.take (min texts.length 20) ∧ T.length = min texts.length 20 := ⟨_, rfl, by rw [List.length_take]; omega⟩
  have hrt := take_str hT rfl (m := T.length) (by omega)
  rw [show texts.take T.length = T by rw [hTL, ← hTT]] at hrt
  have hcv := fun W (s : ByteArray) (hW : Below w.heap.size w W) => cover_any ((hg.on hW).more hW.size) hwf s
  have hN : ∃ N, N = (preLs (bodies g)).length := ⟨_, rfl⟩
  obtain ⟨N, hN⟩ := hN
  have hcf := fun (s : ByteArray) (h : lookG g s = 0) => cover_facts h
  rw [← hN] at hcf
  have hbg := begun1_any
  have hmk := fun (hN : N ≤ 120) W => made_run Try.underlying63 hi1 hy0 .i64 .i64 (Nat.le_refl N) (by rw [hy2]; omega) (by omega) W
  rw [hy1] at hmk
  change ∀ _, ∀ W : World, _ = Result.ok _ (W.alloc (.cells (zeros N) 3)) at hmk
  have HRT := Lib.hid hrt
  have HCV := Lib.hid hcv
  have HCF := Lib.hid hcf
  have HBG := Lib.hid hbg
  have HMK := Lib.hid hmk
  have HN := Lib.hid hN
  clear hg hwf hT hrt hcv hcf hbg hmk hN hTT hy1 hy2
  rcases Nat.lt_or_ge 20 texts.length with h20 | h20
  · have hmn : ((20 : Int) < (texts.length : Int)) := by omega
    have hML : T.length = 20 := by omega
    have hM20 : 20 ≤ 20 := by omega
    rw [hML] at HRT
    clear hTL
    go_enter Try.func7, Try.ntmps7
    go_wp2
    go_loopw [5, 7, 8, 9, 27] (fun vo _ _ _ i wr => ∃ (j : Nat) (l : List Mrow) (V : Option Addr) (co : Nat), j ≤ 20 ∧ i = .int .i64 j ∧ vo = .slice V l.length co ∧ l.length ≤ j ∧ Hid (∀ x ∈ l, x.2.2.length = N ∧ ∀ i, mkA x.2.2 i ≤ 3) ∧ Hid (0 < l.length → 0 < N ∧ N ≤ 120) ∧ Hid (MrOk wr (Value.slice V l.length co).ownBlock l) ∧ Hid (wr.ownsRow (w.heap.size + 1) 63 1 (.slice V l.length co) l.length (l.map Mrow.val)) ∧ Blk wr w.heap.size 24 #[.slice A g.length cp] ∧ Below w.heap.size w wr) (fun _ _ _ _ i _ => 20 - (intOf i).toNat)
    case atStart => exact ⟨0, [], none, 0, by omega, rfl, rfl, Nat.le_refl _, fun x hx => (by cases hx), fun h => (by simp at h), fun x hx => (by cases hx), World.ownsRow_nil _ _ _ _, blk_at rfl, (by repeat (first | exact Below.refl _ _ | assumption | refine Below.drew ?_ | refine below_drewN ?_ _ | refine Below.alloc ?_ (by first | omega | (simp; omega) | simp) _ | refine Below.setCell ?_ (by first | omega | (simp; omega) | simp) _))⟩
    case round =>
      obtain ⟨j, l, V, co, hj, rfl, rfl, hlj, HX, HNP, HMR, HO, hbx, hwr⟩ := hrel
      have hwz := hwr.size
      have hgl := hbx.lt
      by_cases hjm : j < 20
      · obtain ⟨ad, s, rfl, hab, hsj, hcs⟩ := reads_str (HRT.out.below hwr) hjm
        have g0 : wr.cell? ⟨w.heap.size, 0, none⟩ = some (.slice A g.length cp) := hbx.cell 0
        have hji : (j : Int) < (20 : Int) := by omega
        clear hsj
        go_wp2_with fail
        refine (HCV.out _ s hwr).mono ?_
        rintro e w7 ⟨V7, c7, l7, rfl, hr7, hlc, hcm7, hb7, hbase, hno, hyes⟩
        have hw7 := hwr.trans (hb7.mono hwz)
        have hbx7 := hbx.below hb7 hgl
        by_cases hl0 : lookG g s = 0
        · obtain ⟨r, o, m, σ1, -, -, -, -, hcov, -⟩ := hyes hl0
          have hl7 : l7.length = N := by rw [HN.out]; exact hcov.len
          have hle3 := hcov.le
          obtain ⟨hn0, hn120⟩ := HCF.out s hl0
          have hown7 := own_below HO.out hb7
          have hmr7 := HMR.out.below hb7
          have hap : ∀ ad : Addr, V7 = some ad → some ad.block ≠ (Value.slice V l.length co).ownBlock := fun ad hV he => by
            have h1 := hbase ad hV
            have h2 := HO.out.lt ad.block he.symm
            omega
          rw [hl0]
          have hw7z := hw7.size
          have HOW := Lib.hid hown7
          have HMW := Lib.hid hmr7
          have HAP := Lib.hid hap
          have HR7 := Lib.hid hr7
          have HL3 := Lib.hid hle3
          have HL7 := Lib.hid hl7
          have HLC := Lib.hid hlc
          have HCM := Lib.hid hcm7
          have hbl7 := hbx7.lt
          clear hno hyes hl0 hcov hown7 hmr7 hap hr7 hle3 hl7 hb7 HMR HO hbx g0 hlc hcm7
          go_wp2_with (at_builtin; refine wpList_append_own_at _ rfl _ _ _ rfl (w.heap.size + 1) 63 i0 _ 1 24 Try.underlying72 hi0 hz0 hz1 hz2 rfl (by decide) _ l.length (l.map Mrow.val) rfl (HOW.out.alloc _) ⟨w7.heap.size, 0, none⟩ 1 1 [.slice V7 l7.length c7] rfl rfl (cells_newZ w7 63 [.slice V7 l7.length c7]) (by simp [Value.oneCell']) (by unfold maxLen; omega) (by omega) (by simp; omega) ?_; intro v' w8 hown8 hgr8 hnil8 hat8; obtain ⟨V8, c8, rfl⟩ := own_form hown8)
          have hal : Below w7.heap.size w7 (w7.alloc (.cells #[.slice V7 l7.length c7] 63)) := (Below.refl _ _).alloc (Nat.le_refl _) _
          have hw8 : Below w.heap.size w w8 := below_app (hw7.alloc hw7z _) (HOW.out.alloc _) hgr8 (by simp; omega) (by omega)
          have hbx8 := (hbx7.alloc (.cells #[.slice V7 l7.length c7] 63)).grown hgr8 (own_ne HOW.out (Nat.lt_succ_self _))
          have hmal := HMW.out.below hal
          have hlt : ∀ y ∈ l ++ [((V7, c7, l7) : Mrow)], ∀ ad : Addr, y.1 = some ad → ad.block < (w7.alloc (.cells #[.slice V7 l7.length c7] 63)).heap.size := fun y hy ad hV => by
            have hr : Reads (w7.alloc (.cells #[.slice V7 l7.length c7] 63)) (w7.alloc (.cells #[.slice V7 l7.length c7] 63)).heap.size 1 y.1 y.2.2.length (ints (natZ y.2.2)) ∧ y.2.2.length = N := by
              rcases List.mem_append.1 hy with h1 | h1
              · exact ⟨(hmal y h1).2.2.1, (HX.out y h1).1⟩
              · rw [List.mem_singleton] at h1
                subst h1
                exact ⟨reads_wide HR7.out hal, HL7.out⟩
            obtain ⟨ad', e, hb, _⟩ := hr.1.lies (by omega)
            rw [hV] at e
            injection e with e
            rw [e]
            exact hb
          have hmr8 := hmal.push (x := (V7, c7, l7)) ⟨HLC.out, HCM.out, reads_wide HR7.out hal, HAP.out⟩ hgr8 (own' := (Value.slice V8 (l.length + 1) c8).ownBlock) (by
            rcases hat8 with h1 | h1
            · exact .inl h1
            · exact .inr ⟨_, h1, Nat.le_refl _⟩) hlt
          have HX8 : Hid (∀ x ∈ l ++ [((V7, c7, l7) : Mrow)], x.2.2.length = N ∧ ∀ i, mkA x.2.2 i ≤ 3) := fun x hx => by
            rcases List.mem_append.1 hx with h1 | h1
            · exact HX.out x h1
            · rw [List.mem_singleton] at h1
              subst h1
              exact ⟨HL7.out, HL3.out⟩
          have HO8 := Lib.hid hown8
          have HM8 := Lib.hid hmr8
          clear hown8 hgr8 hnil8 hat8 hal hmal hlt hmr8 HX HNP HMW HOW HAP HR7
          go_roundw
          case rel => exact ⟨j + 1, l ++ [(V7, c7, l7)], V8, c8, by omega, by go_num, by rw [List.length_append]; rfl, by rw [List.length_append, List.length_singleton]; omega, HX8, fun _ => ⟨hn0, hn120⟩, by rw [List.length_append]; exact HM8, by rw [List.length_append, List.map_append]; exact HO8, hbx8, hw8⟩
          case measure => simp [intOf]; omega
        · obtain rfl := hno hl0
          have hxb : (lookG g s != 0) = true := by rw [bne_iff_ne]; exact hl0
          generalize lookG g s = x at hxb ⊢
          clear hl0 hno hyes hr7 hb7 HMR HO HX HNP
          go_wp2_with fail
          refine (HBG.out _).mono ?_
          rintro e w8 ⟨rfl, hb8⟩
          have hw8 := hw7.trans (hb8.mono hw7.size)
          go_wp2
          go_ret
          exact ⟨rfl, hw8⟩
      · obtain rfl : j = 20 := by omega
        clear hjm
        rename World => w9
        have hrows := HMR.out.rows HO.out
        have hRl0 : (l.map fun x => natZ x.2.2).length = l.length := List.length_map ..
        have hall : ∀ r ∈ (l.map fun x => natZ x.2.2), r.length = N ∧ Marks r := fun r hr => by
          obtain ⟨x, hx, rfl⟩ := List.mem_map.1 hr
          obtain ⟨h1, h2⟩ := HX.out x hx
          exact ⟨(natZ_len _).trans h1, natZ_marks h2⟩
        generalize (l.map fun x => natZ x.2.2) = R at hrows hRl0 hall
        have hpk := pick_any R V co w9 hrows
        rw [hRl0] at hpk
        rcases Nat.eq_zero_or_pos l.length with h0 | h0
        · rw [h0] at hpk hRl0 ⊢
          obtain rfl : R = [] := List.eq_nil_of_length_eq_zero hRl0
          have HPK := Lib.hid hpk
          clear hpk hrows hRl0 hall HX HNP HMR HO h0
          go_wp2_with fail
          refine HPK.out.mono ?_
          rintro e w10 ⟨V10, c10, pk, rfl, hr10, hb10, -, -, -, -, -, hyes⟩
          have hpk0 : pk = [] := by
            obtain ⟨P, -⟩ := hyes rfl
            cases pk with
            | nil => rfl
            | cons i t =>
              obtain ⟨r, hb⟩ := P 0 i rfl
              have := hb.at_
              simp at this
          subst hpk0
          rw [show chkR [] = 0 from rfl]
          have hw10 := hwr.trans (hb10.mono hwz)
          clear hyes hr10 hb10 HPK
          go_wp2_with fail
          refine (HBG.out _).mono ?_
          rintro e w11 ⟨rfl, hb11⟩
          have hw11 := hw10.trans (hb11.mono hw10.size)
          go_wp2
          go_ret
          exact ⟨rfl, hw11⟩
        · obtain ⟨hn0, hn120⟩ := HNP.out h0
          obtain ⟨hck, hrl⟩ := chkR_of (by omega) hn120 hall
          have hrl := hrl (by omega)
          have HPK := Lib.hid hpk
          have HROW := Lib.hid hrows
          have HALL := Lib.hid hall
          have HRL := Lib.hid hRl0
          have hlm : l.length ≤ 20 := by omega
          have hmk := HMK.out hn120
          clear hpk hrows hall hRl0 HX HNP HMR HO HMK
          generalize l.length = n at *
          go_wp2_with fail
          refine HPK.out.mono ?_
          rintro e w10 ⟨V10, c10, pk, rfl, hr10, hb10, hp240, -, -, -, -, hyes⟩
          obtain ⟨P, D⟩ := hyes hck
          rw [hrl] at P D
          rw [hck]
          have hw10 := hwr.trans (hb10.mono hwz)
          have HP := Lib.hid P
          have HD := Lib.hid D
          have HIL : Hid (∀ i ∈ pk, i < n) := fun i hi => by
            obtain ⟨k, hk⟩ := List.mem_iff_getElem?.1 hi
            have := greedy_lt HP.out hk
            rw [List.length_map, HRL.out] at this
            exact this
          have HROW10 := Lib.hid (HROW.out.on hb10)
          have HR10 := Lib.hid hr10
          have h910 := hb10.size
          clear hyes hb10 hr10 HPK hck hrl P D HROW
          go_wp2_with fail
          refine (HBG.out _).mono ?_
          rintro e w11 ⟨rfl, hb11⟩
          have hw11 := hw10.trans (hb11.mono hw10.size)
          have hrow11 := HROW10.out.on (hb11.mono h910)
          have HR11 := Lib.hid (HR10.out.below hb11)
          have h1011 := hb11.size
          obtain ⟨r0, hr0⟩ : ∃ r0, R[0]? = some r0 := ⟨_, List.getElem?_eq_getElem (by have := HRL.out; omega)⟩
          obtain ⟨vad, A0, c0, rfl, hvab, hcc0, -, -, -⟩ := hrow11.row 0 r0 hr0
          rw [(HALL.out r0 (List.mem_of_getElem? hr0)).1] at hcc0
          have hcc0 : w11.cell? vad = some (.slice A0 N c0) := hcc0
          have hnb : ((n : Int) == 0) = false := by rw [beq_eq_false_iff_ne]; omega
          have hni : (0 : Int) < (n : Int) := by omega
          have HROW11 := Lib.hid hrow11
          have hvl : vad.block < w11.heap.size := by omega
          clear hrow11 hr0 hb11 HROW10 HR10 hbx hgl
          go_upto_region 16 with fail
          go_cut [12, 13] (fun s12 s13 wx => ∃ A1 A2 : Option Addr, s12 = .slice A1 N N ∧ s13 = .slice A2 N N ∧ Hid (Reads wx wx.heap.size 1 A1 N (ints (List.replicate N 0))) ∧ Hid (Reads wx wx.heap.size 1 A2 N (ints (List.replicate N 0))) ∧ Below w11.heap.size w11 wx)
          case first =>
            have b1 : Blk ((w11.alloc (.cells (zeros N) 3)).alloc (.cells (zeros N) 3)).drew w11.heap.size 3 (zeros N) := ((Blk.new w11 _ _).alloc _).drew
            have b2 : Blk ((w11.alloc (.cells (zeros N) 3)).alloc (.cells (zeros N) 3)).drew (w11.heap.size + 1) 3 (zeros N) := (blk_at (by simp)).drew
            have HZA : Hid (Reads ((w11.alloc (.cells (zeros N) 3)).alloc (.cells (zeros N) 3)).drew ((w11.alloc (.cells (zeros N) 3)).alloc (.cells (zeros N) 3)).drew.heap.size 1 (some ⟨w11.heap.size, 0, none⟩) N (ints (List.replicate N 0))) := by
              have h := reads_block (B := ((w11.alloc (.cells (zeros N) 3)).alloc (.cells (zeros N) 3)).drew.heap.size) (n := (zeros N).size) b1 (zeros_toList N).symm rfl b1.lt
              rw [zeros_size] at h
              exact h
            have HZB : Hid (Reads ((w11.alloc (.cells (zeros N) 3)).alloc (.cells (zeros N) 3)).drew ((w11.alloc (.cells (zeros N) 3)).alloc (.cells (zeros N) 3)).drew.heap.size 1 (some ⟨w11.heap.size + 1, 0, none⟩) N (ints (List.replicate N 0))) := by
              have h := reads_block (B := ((w11.alloc (.cells (zeros N) 3)).alloc (.cells (zeros N) 3)).drew.heap.size) (n := (zeros N).size) b2 (zeros_toList N).symm rfl b2.lt
              rw [zeros_size] at h
              exact h
            have hbz : Below w11.heap.size w11 ((w11.alloc (.cells (zeros N) 3)).alloc (.cells (zeros N) 3)).drew := (by repeat (first | exact Below.refl _ _ | assumption | refine Below.drew ?_ | refine below_drewN ?_ _ | refine Below.alloc ?_ (by first | omega | (simp; omega) | simp) _ | refine Below.setCell ?_ (by first | omega | (simp; omega) | simp) _))
            clear b1 b2
            go_region
            all_goals (go_wp2_with fail; go_meet)
            all_goals (first | exact ⟨_, _, rfl, rfl, HZA, HZB, hbz⟩ | exact ⟨_, _, rfl, rfl, HZB, HZA, hbz⟩)
          case rest =>
          obtain ⟨A1, A2, rfl, rfl, HA1, HA2, hwx⟩ := hcut
          have hw12 := hw11.trans (hwx.mono hw11.size)
          have h911 : w9.heap.size ≤ w11.heap.size := Nat.le_trans h910 h1011
          have HROWC := Lib.hid (HROW11.out.on (hwx.mono h911))
          have HRC := Lib.hid (HR11.out.below (hwx.mono h1011))
          have hvc : vad.block < wc.heap.size := by have := hwx.size; omega
          have hz12 := hw12.size
          clear hcc0 hnb hmk HROW11 HR11 hw11 hwr hw10
          have hc1 : w9.heap.size ≤ wc.heap.size := by have := hwx.size; omega
          have hc10 : w10.heap.size ≤ wc.heap.size := by have := hwx.size; omega
          have HZ0 : Hid (∀ x < 2 * N, says (List.replicate N 0) x = unionB (R.map says) (List.range 0) x) := fun x _ => by rw [says_zero]; rfl
          have HM0 : Hid (Marks (List.replicate N (0 : Int))) := fun z hz => by
            have := List.eq_of_mem_replicate hz
            subst this
            decide
          have HL0 : Hid ((List.replicate N (0 : Int)).length = N) := List.length_replicate ..
          clear hwx
          rename World => wx
          go_wp2
          go_loopw [11, 12, 15, 79] (fun _ va _ i wr => ∃ (j : Nat) (VA : Option Addr) (ca : Nat) (hv : List Int), j ≤ n ∧ i = .int .i64 j ∧ va = .slice VA N ca ∧ Hid (hv.length = N) ∧ Hid (Marks hv) ∧ Hid (∀ x < 2 * N, says hv x = unionB (R.map says) (List.range j) x) ∧ Hid (Reads wr wr.heap.size 1 VA N (ints hv)) ∧ Below wx.heap.size wx wr) (fun _ _ _ i _ => n - (intOf i).toNat)
          case atStart => exact ⟨0, A1, N, _, by omega, rfl, rfl, HL0, HM0, HZ0, HA1, Below.refl _ _⟩
          case round =>
            clear HA1 HZ0
            obtain ⟨j, VA, ca, hv, hj, rfl, rfl, HHL, HHM, HHS, HHV, hwr⟩ := hrel
            have hwrz := hwr.size
            by_cases hjn : j < n
            · obtain ⟨r, hr⟩ : ∃ r, R[j]? = some r := ⟨_, List.getElem?_eq_getElem (by have := HRL.out; omega)⟩
              obtain ⟨hrl, hrm⟩ := HALL.out r (List.mem_of_getElem? hr)
              obtain ⟨vad2, Ar, cr, e2, -, hcr, -, -, hrr⟩ := (HROWC.out.on (hwr.mono hc1)).row j r hr
              injection e2 with e2
              subst e2
              rw [hrl] at hcr hrr
              have hme := merge_any VA Ar N ca N cr hv r _ _ wr HHV.out hrr (Nat.le_refl _) (Nat.le_trans hc1 hwrz)
              unfold MergeSays at hme
              rw [merge_ok HHL.out hrl hn120 HHM.out hrm, mergeV_ok HHL.out hrl hn120 HHM.out hrm, zip_len HHL.out hrl] at hme
              have HME := Lib.hid hme
              have HL2 : Hid ((List.zipWith orI hv r).length = N) := zip_len HHL.out hrl
              have HM2 : Hid (Marks (List.zipWith orI hv r)) := zip_marks HHM.out hrm
              have HS2 : Hid (∀ x < 2 * N, says (List.zipWith orI hv r) x = unionB (R.map says) (List.range (j + 1)) x) := fun x hx => by
                rw [says_zip HHL.out hrl HHM.out hrm hx, List.range_succ, union_snoc, sayR_of (r := says r) (by rw [List.getElem?_map, hr]; rfl), HHS.out x hx]
                rfl
              have hji : (j : Int) < (n : Int) := by omega
              have hvw : vad.block < wr.heap.size := by omega
              clear hrr hme hrl hrm hr
              go_wp2_with fail
              refine HME.out.mono ?_
              rintro e w13 ⟨V13, c13, rfl, ho13, hb13⟩
              have hw13 := hwr.trans (hb13.mono hwrz)
              have HR13 := Lib.hid (Reads.of_own ho13)
              clear ho13 hb13 HHV HHS HHL HHM HME
              go_wp2
              go_roundw
              case rel => exact ⟨j + 1, V13, c13, _, by omega, by go_num, rfl, HL2, HM2, HS2, HR13, hw13⟩
              case measure => simp [intOf]; omega
            · obtain rfl : j = n := by omega
              have HAV := HHV
              rename World => wy
              have hcy : wx.heap.size ≤ wy.heap.size := hwrz
              have hwy := hwr
              have HZ0 : Hid (∀ x < 2 * N, says (List.replicate N 0) x = unionB (R.map says) (pk.take 0) x) := fun x _ => by rw [says_zero]; rfl
              have HA2y := Lib.hid (reads_wide HA2.out hwr)
              have HROWY := Lib.hid (HROWC.out.on (hwr.mono hc1))
              have HRY := Lib.hid (HRC.out.below (hwr.mono hc10))
              have hw0y := hw12.trans (hwr.mono hz12)
              have hvy : vad.block < wy.heap.size := by omega
              have h9y : w9.heap.size ≤ wy.heap.size := by omega
              have h10y : w10.heap.size ≤ wy.heap.size := by omega
              clear hwr HA2 HROWC HRC hw12 hvc
              go_wp2
              go_loopw [13, 17, 18, 19, 94] (fun vs _ _ _ i wr => ∃ (k : Nat) (VS : Option Addr) (cs : Nat) (sv : List Int), k ≤ pk.length ∧ i = .int .i64 k ∧ vs = .slice VS N cs ∧ Hid (sv.length = N) ∧ Hid (Marks sv) ∧ Hid (∀ x < 2 * N, says sv x = unionB (R.map says) (pk.take k) x) ∧ Hid (Reads wr wr.heap.size 1 VS N (ints sv)) ∧ Below wy.heap.size wy wr) (fun _ _ _ _ i _ => pk.length - (intOf i).toNat)
              case atStart => exact ⟨0, A2, N, _, by omega, rfl, rfl, HL0, HM0, HZ0, HA2y, Below.refl _ _⟩
              case round =>
                clear HZ0 HA2y
                obtain ⟨k, VS, cs, sv, hk, rfl, rfl, HSL, HSM, HSS, HSV, hwr⟩ := hrel
                have hwrz := hwr.size
                by_cases hkn : k < pk.length
                · obtain ⟨pad, z, rfl, hpab, hz, hcz⟩ := (HRY.out.below (hwr.mono h10y)).int_at hkn
                  obtain ⟨i, hpi, rfl⟩ := natI_at hz
                  have hin := HIL.out i (List.mem_of_getElem? hpi)
                  obtain ⟨r, hr⟩ : ∃ r, R[i]? = some r := ⟨_, List.getElem?_eq_getElem (by have := HRL.out; omega)⟩
                  obtain ⟨hrl, hrm⟩ := HALL.out r (List.mem_of_getElem? hr)
                  obtain ⟨vad2, Ar, cr, e2, -, hcr, -, -, hrr⟩ := (HROWY.out.on (hwr.mono h9y)).row i r hr
                  injection e2 with e2
                  subst e2
                  rw [hrl] at hcr hrr
                  have hsr : (R.map says)[i]? = some (says r) := by rw [List.getElem?_map, hr]; rfl
                  have hme := merge_any VS Ar N cs N cr sv r _ _ wr HSV.out hrr (Nat.le_refl _) (Nat.le_trans h9y hwrz)
                  unfold MergeSays at hme
                  rw [merge_ok HSL.out hrl hn120 HSM.out hrm, mergeV_ok HSL.out hrl hn120 HSM.out hrm, zip_len HSL.out hrl] at hme
                  have HL2 : Hid ((List.zipWith orI sv r).length = N) := zip_len HSL.out hrl
                  have HM2 : Hid (Marks (List.zipWith orI sv r)) := zip_marks HSM.out hrm
                  have HS2 : Hid (∀ x < 2 * N, says (List.zipWith orI sv r) x = unionB (R.map says) (pk.take (k + 1)) x) := fun x hx => by
                    rw [says_zip HSL.out hrl HSM.out hrm hx, take_snoc hpi, sayR_of hsr, HSS.out x hx]
                    rfl
                  have hne : List.zipWith orI sv r ≠ sv := fun he => by
                    obtain ⟨r', hb⟩ := HP.out k i hpi
                    have h1 := hb.at_
                    rw [hsr] at h1
                    injection h1 with h1
                    subst h1
                    have h2 := hb.pos
                    unfold gainB cntN at h2
                    rw [List.countP_pos_iff] at h2
                    obtain ⟨x, hx, hx2⟩ := h2
                    have hx := List.mem_range.1 hx
                    unfold newB at hx2
                    rw [Bool.and_eq_true, Bool.not_eq_true', ← HSS.out x hx] at hx2
                    have h3 := says_zip HSL.out hrl HSM.out hrm hx
                    rw [he, hx2.1, hx2.2] at h3
                    cases h3
                  have heq := fun (W : World) (V' : Option Addr) (c' : Nat) (h : Reads W W.heap.size 1 V' N (ints (List.zipWith orI sv r))) (h' : Reads W W.heap.size 1 VS N (ints sv)) => equal_any V' VS N c' N cs (List.zipWith orI sv r) sv _ _ W h h' (by unfold Small; omega)
                  rw [decide_eq_false hne] at heq
                  have HME := Lib.hid hme
                  have HEQ := Lib.hid heq
                  have hki : (k : Int) < (pk.length : Int) := by omega
                  have q1 : ((i : Int) < 0) = False := by simp
                  have q2 : ((j : Int) ≤ (i : Int)) = False := by simp; omega
                  have q3 : (0 : Int) ≤ (i : Int) := by omega
                  have q4 : (i : Int) < (j : Int) := by omega
                  have hvw : vad.block < wr.heap.size := by omega
                  clear hrr hme heq hrl hrm hr hsr hne hpi hz
                  go_wp2_with fail
                  refine HME.out.mono ?_
                  rintro e w13 ⟨V13, c13, rfl, ho13, hb13⟩
                  have hw13 := hwr.trans (hb13.mono hwrz)
                  have HR13 := Lib.hid (Reads.of_own ho13)
                  have HSV13 := Lib.hid (reads_wide HSV.out hb13)
                  clear ho13 hb13 HSV HSS HSL HSM HME
                  go_wp2_with fail
                  refine (HEQ.out _ _ _ HR13.out HSV13.out).mono ?_
                  rintro e w14 ⟨rfl, d, rfl⟩
                  have HR14 : Hid (Reads (w13.drewN d) (w13.drewN d).heap.size 1 V13 N (ints (List.zipWith orI sv r))) := HR13.out.drewN d
                  have hw14 := below_drewN hw13 d
                  generalize (w13.drewN d) = w14 at HR14 hw14 ⊢
                  clear HEQ HSV13 HR13 hw13
                  go_wp2
                  go_roundw
                  case rel => exact ⟨k + 1, V13, c13, _, by omega, by go_num, rfl, HL2, HM2, HS2, HR14, hw14⟩
                  case measure => simp [intOf]; omega
                · obtain rfl : k = pk.length := by omega
                  have hsame : hv = sv := says_eq HHL.out HSL.out HHM.out HSM.out fun x hx => by
                    rw [HHS.out x hx, HSS.out x hx, List.take_length]
                    have hlen : (R.map says).length = j := by rw [List.length_map, HRL.out]
                    rw [← hlen, Bool.eq_iff_iff, union_all]
                    exact ⟨fun ⟨q, hq, hqx⟩ => gain_zero (HD.out q hq) hx hqx, fun h => union_some h⟩
                  subst hsame
                  have heq := fun (W : World) (h : Reads W W.heap.size 1 VA N (ints hv)) (h' : Reads W W.heap.size 1 VS N (ints hv)) => equal_any VA VS N ca N cs hv hv _ _ W h h' (by unfold Small; omega)
                  simp only [decide_true] at heq
                  have HEQ := Lib.hid heq
                  have HAV2 := Lib.hid (reads_wide HAV.out hwr)
                  have HW := Lib.hid (hw0y.trans (hwr.mono hw0y.size))
                  clear heq HHV HHS HSS HROWY HRY hkn
                  go_wp2_with fail
                  refine (HEQ.out _ HAV2.out HSV.out).mono ?_
                  rintro e w14 ⟨rfl, d, rfl⟩
                  go_wp2
                  go_ret
                  exact ⟨rfl, below_drewN HW.out d⟩
  · have hmn : ((20 : Int) < (texts.length : Int)) = False := by simp; omega
    have hML : T.length = texts.length := by omega
    have hM20 : texts.length ≤ 20 := by omega
    rw [hML] at HRT
    clear hTL
    go_enter Try.func7, Try.ntmps7
    go_wp2
    go_loopw [5, 7, 8, 9, 27] (fun vo _ _ _ i wr => ∃ (j : Nat) (l : List Mrow) (V : Option Addr) (co : Nat), j ≤ texts.length ∧ i = .int .i64 j ∧ vo = .slice V l.length co ∧ l.length ≤ j ∧ Hid (∀ x ∈ l, x.2.2.length = N ∧ ∀ i, mkA x.2.2 i ≤ 3) ∧ Hid (0 < l.length → 0 < N ∧ N ≤ 120) ∧ Hid (MrOk wr (Value.slice V l.length co).ownBlock l) ∧ Hid (wr.ownsRow (w.heap.size + 1) 63 1 (.slice V l.length co) l.length (l.map Mrow.val)) ∧ Blk wr w.heap.size 24 #[.slice A g.length cp] ∧ Below w.heap.size w wr) (fun _ _ _ _ i _ => texts.length - (intOf i).toNat)
    case atStart => exact ⟨0, [], none, 0, by omega, rfl, rfl, Nat.le_refl _, fun x hx => (by cases hx), fun h => (by simp at h), fun x hx => (by cases hx), World.ownsRow_nil _ _ _ _, blk_at rfl, (by repeat (first | exact Below.refl _ _ | assumption | refine Below.drew ?_ | refine below_drewN ?_ _ | refine Below.alloc ?_ (by first | omega | (simp; omega) | simp) _ | refine Below.setCell ?_ (by first | omega | (simp; omega) | simp) _))⟩
    case round =>
      obtain ⟨j, l, V, co, hj, rfl, rfl, hlj, HX, HNP, HMR, HO, hbx, hwr⟩ := hrel
      have hwz := hwr.size
      have hgl := hbx.lt
      by_cases hjm : j < texts.length
      · obtain ⟨ad, s, rfl, hab, hsj, hcs⟩ := reads_str (HRT.out.below hwr) hjm
        have g0 : wr.cell? ⟨w.heap.size, 0, none⟩ = some (.slice A g.length cp) := hbx.cell 0
        have hji : (j : Int) < (texts.length : Int) := by omega
        clear hsj
        go_wp2_with fail
        refine (HCV.out _ s hwr).mono ?_
        rintro e w7 ⟨V7, c7, l7, rfl, hr7, hlc, hcm7, hb7, hbase, hno, hyes⟩
        have hw7 := hwr.trans (hb7.mono hwz)
        have hbx7 := hbx.below hb7 hgl
        by_cases hl0 : lookG g s = 0
        · obtain ⟨r, o, m, σ1, -, -, -, -, hcov, -⟩ := hyes hl0
          have hl7 : l7.length = N := by rw [HN.out]; exact hcov.len
          have hle3 := hcov.le
          obtain ⟨hn0, hn120⟩ := HCF.out s hl0
          have hown7 := own_below HO.out hb7
          have hmr7 := HMR.out.below hb7
          have hap : ∀ ad : Addr, V7 = some ad → some ad.block ≠ (Value.slice V l.length co).ownBlock := fun ad hV he => by
            have h1 := hbase ad hV
            have h2 := HO.out.lt ad.block he.symm
            omega
          rw [hl0]
          have hw7z := hw7.size
          have HOW := Lib.hid hown7
          have HMW := Lib.hid hmr7
          have HAP := Lib.hid hap
          have HR7 := Lib.hid hr7
          have HL3 := Lib.hid hle3
          have HL7 := Lib.hid hl7
          have HLC := Lib.hid hlc
          have HCM := Lib.hid hcm7
          have hbl7 := hbx7.lt
          clear hno hyes hl0 hcov hown7 hmr7 hap hr7 hle3 hl7 hb7 HMR HO hbx g0 hlc hcm7
          go_wp2_with (at_builtin; refine wpList_append_own_at _ rfl _ _ _ rfl (w.heap.size + 1) 63 i0 _ 1 24 Try.underlying72 hi0 hz0 hz1 hz2 rfl (by decide) _ l.length (l.map Mrow.val) rfl (HOW.out.alloc _) ⟨w7.heap.size, 0, none⟩ 1 1 [.slice V7 l7.length c7] rfl rfl (cells_newZ w7 63 [.slice V7 l7.length c7]) (by simp [Value.oneCell']) (by unfold maxLen; omega) (by omega) (by simp; omega) ?_; intro v' w8 hown8 hgr8 hnil8 hat8; obtain ⟨V8, c8, rfl⟩ := own_form hown8)
          have hal : Below w7.heap.size w7 (w7.alloc (.cells #[.slice V7 l7.length c7] 63)) := (Below.refl _ _).alloc (Nat.le_refl _) _
          have hw8 : Below w.heap.size w w8 := below_app (hw7.alloc hw7z _) (HOW.out.alloc _) hgr8 (by simp; omega) (by omega)
          have hbx8 := (hbx7.alloc (.cells #[.slice V7 l7.length c7] 63)).grown hgr8 (own_ne HOW.out (Nat.lt_succ_self _))
          have hmal := HMW.out.below hal
          have hlt : ∀ y ∈ l ++ [((V7, c7, l7) : Mrow)], ∀ ad : Addr, y.1 = some ad → ad.block < (w7.alloc (.cells #[.slice V7 l7.length c7] 63)).heap.size := fun y hy ad hV => by
            have hr : Reads (w7.alloc (.cells #[.slice V7 l7.length c7] 63)) (w7.alloc (.cells #[.slice V7 l7.length c7] 63)).heap.size 1 y.1 y.2.2.length (ints (natZ y.2.2)) ∧ y.2.2.length = N := by
              rcases List.mem_append.1 hy with h1 | h1
              · exact ⟨(hmal y h1).2.2.1, (HX.out y h1).1⟩
              · rw [List.mem_singleton] at h1
                subst h1
                exact ⟨reads_wide HR7.out hal, HL7.out⟩
            obtain ⟨ad', e, hb, _⟩ := hr.1.lies (by omega)
            rw [hV] at e
            injection e with e
            rw [e]
            exact hb
          have hmr8 := hmal.push (x := (V7, c7, l7)) ⟨HLC.out, HCM.out, reads_wide HR7.out hal, HAP.out⟩ hgr8 (own' := (Value.slice V8 (l.length + 1) c8).ownBlock) (by
            rcases hat8 with h1 | h1
            · exact .inl h1
            · exact .inr ⟨_, h1, Nat.le_refl _⟩) hlt
          have HX8 : Hid (∀ x ∈ l ++ [((V7, c7, l7) : Mrow)], x.2.2.length = N ∧ ∀ i, mkA x.2.2 i ≤ 3) := fun x hx => by
            rcases List.mem_append.1 hx with h1 | h1
            · exact HX.out x h1
            · rw [List.mem_singleton] at h1
              subst h1
              exact ⟨HL7.out, HL3.out⟩
          have HO8 := Lib.hid hown8
          have HM8 := Lib.hid hmr8
          clear hown8 hgr8 hnil8 hat8 hal hmal hlt hmr8 HX HNP HMW HOW HAP HR7
          go_roundw
          case rel => exact ⟨j + 1, l ++ [(V7, c7, l7)], V8, c8, by omega, by go_num, by rw [List.length_append]; rfl, by rw [List.length_append, List.length_singleton]; omega, HX8, fun _ => ⟨hn0, hn120⟩, by rw [List.length_append]; exact HM8, by rw [List.length_append, List.map_append]; exact HO8, hbx8, hw8⟩
          case measure => simp [intOf]; omega
        · obtain rfl := hno hl0
          have hxb : (lookG g s != 0) = true := by rw [bne_iff_ne]; exact hl0
          generalize lookG g s = x at hxb ⊢
          clear hl0 hno hyes hr7 hb7 HMR HO HX HNP
          go_wp2_with fail
          refine (HBG.out _).mono ?_
          rintro e w8 ⟨rfl, hb8⟩
          have hw8 := hw7.trans (hb8.mono hw7.size)
          go_wp2
          go_ret
          exact ⟨rfl, hw8⟩
      · obtain rfl : j = texts.length := by omega
        clear hjm
        rename World => w9
        have hrows := HMR.out.rows HO.out
        have hRl0 : (l.map fun x => natZ x.2.2).length = l.length := List.length_map ..
        have hall : ∀ r ∈ (l.map fun x => natZ x.2.2), r.length = N ∧ Marks r := fun r hr => by
          obtain ⟨x, hx, rfl⟩ := List.mem_map.1 hr
          obtain ⟨h1, h2⟩ := HX.out x hx
          exact ⟨(natZ_len _).trans h1, natZ_marks h2⟩
        generalize (l.map fun x => natZ x.2.2) = R at hrows hRl0 hall
        have hpk := pick_any R V co w9 hrows
        rw [hRl0] at hpk
        rcases Nat.eq_zero_or_pos l.length with h0 | h0
        · rw [h0] at hpk hRl0 ⊢
          obtain rfl : R = [] := List.eq_nil_of_length_eq_zero hRl0
          have HPK := Lib.hid hpk
          clear hpk hrows hRl0 hall HX HNP HMR HO h0
          go_wp2_with fail
          refine HPK.out.mono ?_
          rintro e w10 ⟨V10, c10, pk, rfl, hr10, hb10, -, -, -, -, -, hyes⟩
          have hpk0 : pk = [] := by
            obtain ⟨P, -⟩ := hyes rfl
            cases pk with
            | nil => rfl
            | cons i t =>
              obtain ⟨r, hb⟩ := P 0 i rfl
              have := hb.at_
              simp at this
          subst hpk0
          rw [show chkR [] = 0 from rfl]
          have hw10 := hwr.trans (hb10.mono hwz)
          clear hyes hr10 hb10 HPK
          go_wp2_with fail
          refine (HBG.out _).mono ?_
          rintro e w11 ⟨rfl, hb11⟩
          have hw11 := hw10.trans (hb11.mono hw10.size)
          go_wp2
          go_ret
          exact ⟨rfl, hw11⟩
        · obtain ⟨hn0, hn120⟩ := HNP.out h0
          obtain ⟨hck, hrl⟩ := chkR_of (by omega) hn120 hall
          have hrl := hrl (by omega)
          have HPK := Lib.hid hpk
          have HROW := Lib.hid hrows
          have HALL := Lib.hid hall
          have HRL := Lib.hid hRl0
          have hlm : l.length ≤ 20 := by omega
          have hmk := HMK.out hn120
          clear hpk hrows hall hRl0 HX HNP HMR HO HMK
          generalize l.length = n at *
          go_wp2_with fail
          refine HPK.out.mono ?_
          rintro e w10 ⟨V10, c10, pk, rfl, hr10, hb10, hp240, -, -, -, -, hyes⟩
          obtain ⟨P, D⟩ := hyes hck
          rw [hrl] at P D
          rw [hck]
          have hw10 := hwr.trans (hb10.mono hwz)
          have HP := Lib.hid P
          have HD := Lib.hid D
          have HIL : Hid (∀ i ∈ pk, i < n) := fun i hi => by
            obtain ⟨k, hk⟩ := List.mem_iff_getElem?.1 hi
            have := greedy_lt HP.out hk
            rw [List.length_map, HRL.out] at this
            exact this
          have HROW10 := Lib.hid (HROW.out.on hb10)
          have HR10 := Lib.hid hr10
          have h910 := hb10.size
          clear hyes hb10 hr10 HPK hck hrl P D HROW
          go_wp2_with fail
          refine (HBG.out _).mono ?_
          rintro e w11 ⟨rfl, hb11⟩
          have hw11 := hw10.trans (hb11.mono hw10.size)
          have hrow11 := HROW10.out.on (hb11.mono h910)
          have HR11 := Lib.hid (HR10.out.below hb11)
          have h1011 := hb11.size
          obtain ⟨r0, hr0⟩ : ∃ r0, R[0]? = some r0 := ⟨_, List.getElem?_eq_getElem (by have := HRL.out; omega)⟩
          obtain ⟨vad, A0, c0, rfl, hvab, hcc0, -, -, -⟩ := hrow11.row 0 r0 hr0
          rw [(HALL.out r0 (List.mem_of_getElem? hr0)).1] at hcc0
          have hcc0 : w11.cell? vad = some (.slice A0 N c0) := hcc0
          have hnb : ((n : Int) == 0) = false := by rw [beq_eq_false_iff_ne]; omega
          have hni : (0 : Int) < (n : Int) := by omega
          have HROW11 := Lib.hid hrow11
          have hvl : vad.block < w11.heap.size := by omega
          clear hrow11 hr0 hb11 HROW10 HR10 hbx hgl
          go_upto_region 16 with fail
          go_cut [12, 13] (fun s12 s13 wx => ∃ A1 A2 : Option Addr, s12 = .slice A1 N N ∧ s13 = .slice A2 N N ∧ Hid (Reads wx wx.heap.size 1 A1 N (ints (List.replicate N 0))) ∧ Hid (Reads wx wx.heap.size 1 A2 N (ints (List.replicate N 0))) ∧ Below w11.heap.size w11 wx)
          case first =>
            have b1 : Blk ((w11.alloc (.cells (zeros N) 3)).alloc (.cells (zeros N) 3)).drew w11.heap.size 3 (zeros N) := ((Blk.new w11 _ _).alloc _).drew
            have b2 : Blk ((w11.alloc (.cells (zeros N) 3)).alloc (.cells (zeros N) 3)).drew (w11.heap.size + 1) 3 (zeros N) := (blk_at (by simp)).drew
            have HZA : Hid (Reads ((w11.alloc (.cells (zeros N) 3)).alloc (.cells (zeros N) 3)).drew ((w11.alloc (.cells (zeros N) 3)).alloc (.cells (zeros N) 3)).drew.heap.size 1 (some ⟨w11.heap.size, 0, none⟩) N (ints (List.replicate N 0))) := by
              have h := reads_block (B := ((w11.alloc (.cells (zeros N) 3)).alloc (.cells (zeros N) 3)).drew.heap.size) (n := (zeros N).size) b1 (zeros_toList N).symm rfl b1.lt
              rw [zeros_size] at h
              exact h
            have HZB : Hid (Reads ((w11.alloc (.cells (zeros N) 3)).alloc (.cells (zeros N) 3)).drew ((w11.alloc (.cells (zeros N) 3)).alloc (.cells (zeros N) 3)).drew.heap.size 1 (some ⟨w11.heap.size + 1, 0, none⟩) N (ints (List.replicate N 0))) := by
              have h := reads_block (B := ((w11.alloc (.cells (zeros N) 3)).alloc (.cells (zeros N) 3)).drew.heap.size) (n := (zeros N).size) b2 (zeros_toList N).symm rfl b2.lt
              rw [zeros_size] at h
              exact h
            have hbz : Below w11.heap.size w11 ((w11.alloc (.cells (zeros N) 3)).alloc (.cells (zeros N) 3)).drew := (by repeat (first | exact Below.refl _ _ | assumption | refine Below.drew ?_ | refine below_drewN ?_ _ | refine Below.alloc ?_ (by first | omega | (simp; omega) | simp) _ | refine Below.setCell ?_ (by first | omega | (simp; omega) | simp) _))
            clear b1 b2
            go_region
            all_goals (go_wp2_with fail; go_meet)
            all_goals (first | exact ⟨_, _, rfl, rfl, HZA, HZB, hbz⟩ | exact ⟨_, _, rfl, rfl, HZB, HZA, hbz⟩)
          case rest =>
          obtain ⟨A1, A2, rfl, rfl, HA1, HA2, hwx⟩ := hcut
          have hw12 := hw11.trans (hwx.mono hw11.size)
          have h911 : w9.heap.size ≤ w11.heap.size := Nat.le_trans h910 h1011
          have HROWC := Lib.hid (HROW11.out.on (hwx.mono h911))
          have HRC := Lib.hid (HR11.out.below (hwx.mono h1011))
          have hvc : vad.block < wc.heap.size := by have := hwx.size; omega
          have hz12 := hw12.size
          clear hcc0 hnb hmk HROW11 HR11 hw11 hwr hw10
          have hc1 : w9.heap.size ≤ wc.heap.size := by have := hwx.size; omega
          have hc10 : w10.heap.size ≤ wc.heap.size := by have := hwx.size; omega
          have HZ0 : Hid (∀ x < 2 * N, says (List.replicate N 0) x = unionB (R.map says) (List.range 0) x) := fun x _ => by rw [says_zero]; rfl
          have HM0 : Hid (Marks (List.replicate N (0 : Int))) := fun z hz => by
            have := List.eq_of_mem_replicate hz
            subst this
            decide
          have HL0 : Hid ((List.replicate N (0 : Int)).length = N) := List.length_replicate ..
          clear hwx
          rename World => wx
          go_wp2
          go_loopw [11, 12, 15, 79] (fun _ va _ i wr => ∃ (j : Nat) (VA : Option Addr) (ca : Nat) (hv : List Int), j ≤ n ∧ i = .int .i64 j ∧ va = .slice VA N ca ∧ Hid (hv.length = N) ∧ Hid (Marks hv) ∧ Hid (∀ x < 2 * N, says hv x = unionB (R.map says) (List.range j) x) ∧ Hid (Reads wr wr.heap.size 1 VA N (ints hv)) ∧ Below wx.heap.size wx wr) (fun _ _ _ i _ => n - (intOf i).toNat)
          case atStart => exact ⟨0, A1, N, _, by omega, rfl, rfl, HL0, HM0, HZ0, HA1, Below.refl _ _⟩
          case round =>
            clear HA1 HZ0
            obtain ⟨j, VA, ca, hv, hj, rfl, rfl, HHL, HHM, HHS, HHV, hwr⟩ := hrel
            have hwrz := hwr.size
            by_cases hjn : j < n
            · obtain ⟨r, hr⟩ : ∃ r, R[j]? = some r := ⟨_, List.getElem?_eq_getElem (by have := HRL.out; omega)⟩
              obtain ⟨hrl, hrm⟩ := HALL.out r (List.mem_of_getElem? hr)
              obtain ⟨vad2, Ar, cr, e2, -, hcr, -, -, hrr⟩ := (HROWC.out.on (hwr.mono hc1)).row j r hr
              injection e2 with e2
              subst e2
              rw [hrl] at hcr hrr
              have hme := merge_any VA Ar N ca N cr hv r _ _ wr HHV.out hrr (Nat.le_refl _) (Nat.le_trans hc1 hwrz)
              unfold MergeSays at hme
              rw [merge_ok HHL.out hrl hn120 HHM.out hrm, mergeV_ok HHL.out hrl hn120 HHM.out hrm, zip_len HHL.out hrl] at hme
              have HME := Lib.hid hme
              have HL2 : Hid ((List.zipWith orI hv r).length = N) := zip_len HHL.out hrl
              have HM2 : Hid (Marks (List.zipWith orI hv r)) := zip_marks HHM.out hrm
              have HS2 : Hid (∀ x < 2 * N, says (List.zipWith orI hv r) x = unionB (R.map says) (List.range (j + 1)) x) := fun x hx => by
                rw [says_zip HHL.out hrl HHM.out hrm hx, List.range_succ, union_snoc, sayR_of (r := says r) (by rw [List.getElem?_map, hr]; rfl), HHS.out x hx]
                rfl
              have hji : (j : Int) < (n : Int) := by omega
              have hvw : vad.block < wr.heap.size := by omega
              clear hrr hme hrl hrm hr
              go_wp2_with fail
              refine HME.out.mono ?_
              rintro e w13 ⟨V13, c13, rfl, ho13, hb13⟩
              have hw13 := hwr.trans (hb13.mono hwrz)
              have HR13 := Lib.hid (Reads.of_own ho13)
              clear ho13 hb13 HHV HHS HHL HHM HME
              go_wp2
              go_roundw
              case rel => exact ⟨j + 1, V13, c13, _, by omega, by go_num, rfl, HL2, HM2, HS2, HR13, hw13⟩
              case measure => simp [intOf]; omega
            · obtain rfl : j = n := by omega
              have HAV := HHV
              rename World => wy
              have hcy : wx.heap.size ≤ wy.heap.size := hwrz
              have hwy := hwr
              have HZ0 : Hid (∀ x < 2 * N, says (List.replicate N 0) x = unionB (R.map says) (pk.take 0) x) := fun x _ => by rw [says_zero]; rfl
              have HA2y := Lib.hid (reads_wide HA2.out hwr)
              have HROWY := Lib.hid (HROWC.out.on (hwr.mono hc1))
              have HRY := Lib.hid (HRC.out.below (hwr.mono hc10))
              have hw0y := hw12.trans (hwr.mono hz12)
              have hvy : vad.block < wy.heap.size := by omega
              have h9y : w9.heap.size ≤ wy.heap.size := by omega
              have h10y : w10.heap.size ≤ wy.heap.size := by omega
              clear hwr HA2 HROWC HRC hw12 hvc
              go_wp2
              go_loopw [13, 17, 18, 19, 94] (fun vs _ _ _ i wr => ∃ (k : Nat) (VS : Option Addr) (cs : Nat) (sv : List Int), k ≤ pk.length ∧ i = .int .i64 k ∧ vs = .slice VS N cs ∧ Hid (sv.length = N) ∧ Hid (Marks sv) ∧ Hid (∀ x < 2 * N, says sv x = unionB (R.map says) (pk.take k) x) ∧ Hid (Reads wr wr.heap.size 1 VS N (ints sv)) ∧ Below wy.heap.size wy wr) (fun _ _ _ _ i _ => pk.length - (intOf i).toNat)
              case atStart => exact ⟨0, A2, N, _, by omega, rfl, rfl, HL0, HM0, HZ0, HA2y, Below.refl _ _⟩
              case round =>
                clear HZ0 HA2y
                obtain ⟨k, VS, cs, sv, hk, rfl, rfl, HSL, HSM, HSS, HSV, hwr⟩ := hrel
                have hwrz := hwr.size
                by_cases hkn : k < pk.length
                · obtain ⟨pad, z, rfl, hpab, hz, hcz⟩ := (HRY.out.below (hwr.mono h10y)).int_at hkn
                  obtain ⟨i, hpi, rfl⟩ := natI_at hz
                  have hin := HIL.out i (List.mem_of_getElem? hpi)
                  obtain ⟨r, hr⟩ : ∃ r, R[i]? = some r := ⟨_, List.getElem?_eq_getElem (by have := HRL.out; omega)⟩
                  obtain ⟨hrl, hrm⟩ := HALL.out r (List.mem_of_getElem? hr)
                  obtain ⟨vad2, Ar, cr, e2, -, hcr, -, -, hrr⟩ := (HROWY.out.on (hwr.mono h9y)).row i r hr
                  injection e2 with e2
                  subst e2
                  rw [hrl] at hcr hrr
                  have hsr : (R.map says)[i]? = some (says r) := by rw [List.getElem?_map, hr]; rfl
                  have hme := merge_any VS Ar N cs N cr sv r _ _ wr HSV.out hrr (Nat.le_refl _) (Nat.le_trans h9y hwrz)
                  unfold MergeSays at hme
                  rw [merge_ok HSL.out hrl hn120 HSM.out hrm, mergeV_ok HSL.out hrl hn120 HSM.out hrm, zip_len HSL.out hrl] at hme
                  have HL2 : Hid ((List.zipWith orI sv r).length = N) := zip_len HSL.out hrl
                  have HM2 : Hid (Marks (List.zipWith orI sv r)) := zip_marks HSM.out hrm
                  have HS2 : Hid (∀ x < 2 * N, says (List.zipWith orI sv r) x = unionB (R.map says) (pk.take (k + 1)) x) := fun x hx => by
                    rw [says_zip HSL.out hrl HSM.out hrm hx, take_snoc hpi, sayR_of hsr, HSS.out x hx]
                    rfl
                  have hne : List.zipWith orI sv r ≠ sv := fun he => by
                    obtain ⟨r', hb⟩ := HP.out k i hpi
                    have h1 := hb.at_
                    rw [hsr] at h1
                    injection h1 with h1
                    subst h1
                    have h2 := hb.pos
                    unfold gainB cntN at h2
                    rw [List.countP_pos_iff] at h2
                    obtain ⟨x, hx, hx2⟩ := h2
                    have hx := List.mem_range.1 hx
                    unfold newB at hx2
                    rw [Bool.and_eq_true, Bool.not_eq_true', ← HSS.out x hx] at hx2
                    have h3 := says_zip HSL.out hrl HSM.out hrm hx
                    rw [he, hx2.1, hx2.2] at h3
                    cases h3
                  have heq := fun (W : World) (V' : Option Addr) (c' : Nat) (h : Reads W W.heap.size 1 V' N (ints (List.zipWith orI sv r))) (h' : Reads W W.heap.size 1 VS N (ints sv)) => equal_any V' VS N c' N cs (List.zipWith orI sv r) sv _ _ W h h' (by unfold Small; omega)
                  rw [decide_eq_false hne] at heq
                  have HME := Lib.hid hme
                  have HEQ := Lib.hid heq
                  have hki : (k : Int) < (pk.length : Int) := by omega
                  have q1 : ((i : Int) < 0) = False := by simp
                  have q2 : ((j : Int) ≤ (i : Int)) = False := by simp; omega
                  have q3 : (0 : Int) ≤ (i : Int) := by omega
                  have q4 : (i : Int) < (j : Int) := by omega
                  have hvw : vad.block < wr.heap.size := by omega
                  clear hrr hme heq hrl hrm hr hsr hne hpi hz
                  go_wp2_with fail
                  refine HME.out.mono ?_
                  rintro e w13 ⟨V13, c13, rfl, ho13, hb13⟩
                  have hw13 := hwr.trans (hb13.mono hwrz)
                  have HR13 := Lib.hid (Reads.of_own ho13)
                  have HSV13 := Lib.hid (reads_wide HSV.out hb13)
                  clear ho13 hb13 HSV HSS HSL HSM HME
                  go_wp2_with fail
                  refine (HEQ.out _ _ _ HR13.out HSV13.out).mono ?_
                  rintro e w14 ⟨rfl, d, rfl⟩
                  have HR14 : Hid (Reads (w13.drewN d) (w13.drewN d).heap.size 1 V13 N (ints (List.zipWith orI sv r))) := HR13.out.drewN d
                  have hw14 := below_drewN hw13 d
                  generalize (w13.drewN d) = w14 at HR14 hw14 ⊢
                  clear HEQ HSV13 HR13 hw13
                  go_wp2
                  go_roundw
                  case rel => exact ⟨k + 1, V13, c13, _, by omega, by go_num, rfl, HL2, HM2, HS2, HR14, hw14⟩
                  case measure => simp [intOf]; omega
                · obtain rfl : k = pk.length := by omega
                  have hsame : hv = sv := says_eq HHL.out HSL.out HHM.out HSM.out fun x hx => by
                    rw [HHS.out x hx, HSS.out x hx, List.take_length]
                    have hlen : (R.map says).length = j := by rw [List.length_map, HRL.out]
                    rw [← hlen, Bool.eq_iff_iff, union_all]
                    exact ⟨fun ⟨q, hq, hqx⟩ => gain_zero (HD.out q hq) hx hqx, fun h => union_some h⟩
                  subst hsame
                  have heq := fun (W : World) (h : Reads W W.heap.size 1 VA N (ints hv)) (h' : Reads W W.heap.size 1 VS N (ints hv)) => equal_any VA VS N ca N cs hv hv _ _ W h h' (by unfold Small; omega)
                  simp only [decide_true] at heq
                  have HEQ := Lib.hid heq
                  have HAV2 := Lib.hid (reads_wide HAV.out hwr)
                  have HW := Lib.hid (hw0y.trans (hwr.mono hw0y.size))
                  clear heq HHV HHS HSS HROWY HRY hkn
                  go_wp2_with fail
                  refine (HEQ.out _ HAV2.out HSV.out).mono ?_
                  rintro e w14 ⟨rfl, d, rfl⟩
                  go_wp2
                  go_ret
                  exact ⟨rfl, below_drewN HW.out d⟩
end Go.Proofs.Ytphfckihdhmhpaa
