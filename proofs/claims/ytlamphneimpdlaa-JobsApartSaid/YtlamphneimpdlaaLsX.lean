/- The walk of the law ListAll. -/
import Derived.Test.YtlamphneimpdlaaLsW
import Derived.Test.YtlamphneimpdlaaLsG
import Derived.Test.YtlamphneimpdlaaLsH
namespace Go.Proofs.Ytlamphneimpdlaa
open Go.RowKit

theorem rank_small {a s : List UInt8} (h : OverOk a s) : rank a s < 20000000 := by
  have h1 := (rank_bd h.2.2).2
  have h2 := shN_mono (m := a.length) (show s.length + 1 ≤ 7 by have := h.2.1; omega)
  have h3 := shN_le h.1.2.1 7 (by omega)
  omega
/-- the rank of the text ahead of place j -/
def lastR (a : List UInt8) (l : List ByteArray) : Nat → Int
  | 0 => -1
  | j + 1 => rank a (l.getD j ⟨#[]⟩).data.toList
theorem lastR_lt {a : List UInt8} {l : List ByteArray} (hs : l.Pairwise fun u v => rank a u.data.toList < rank a v.data.toList) {j : Nat} {x : ByteArray} (hx : l[j]? = some x) : lastR a l j < rank a x.data.toList := by
  cases j with
  | zero => simp [lastR]; omega
  | succ j =>
    have hj := getElem?_lt hx
    have h := List.pairwise_iff_getElem.1 hs j (j + 1) (by omega) hj (by omega)
    rw [List.getElem?_eq_getElem hj] at hx
    injection hx with hx
    rw [hx] at h
    simp only [lastR]
    rw [List.getD_eq_getElem?_getD, List.getElem?_eq_getElem (by omega)]
    simpa using h

set_option maxRecDepth 100000 in
set_option maxHeartbeats 8000000 in
theorem walk_ListAll {g : List Rl} {A : Option Addr} {cp : Nat} {row : Nat → List Value} (a : ByteArray) (n : Int) (s : ByteArray) (w : World) (h : GrIs w w.heap.size g A cp row) (hwf : ∀ r ∈ g, WfE r.2) (hs : s.size ≤ 140737488351232) :
    Calls Try.prog 3 #[.agg #[.slice A g.length cp], .string a, .int .i64 n, .string s] w fun e w' => e = .returned (.bool true) ∧ Below w.heap.size w w' := by
  have hlit := lit_b ⟨#[120]⟩
  have hof := of_b
  have hone := fun (W : World) (b : Nat) (hb : Blk W b 35 (exCells 3 0 0 0 0 ⟨#[120]⟩ none 0 0).toArray) => one_b (ofN 7 [litE ⟨#[120]⟩]) _ W (ex_one (litE_is W _ (by decide)) hb (by simp) 7)
  have hwh := fun W (hW : Below w.heap.size w W) (a' : ByteArray) (k : Nat) (ha : a'.size ≤ 140737488351232) (hk : k ≤ 6) => whole_any (h.grow hW) hwf a' k ha hk
  have hac := fun W (hW : Below w.heap.size w W) (t : ByteArray) => acc_any (h.grow hW) hwf t
  have hsm := fun W => small_any a n W
  have hk5 : wiN n 5 < 5 := wiN_lt n (by decide)
  have hsz := smA_size a
  obtain ⟨a', ha'⟩ : ∃ a', smA a = a' := ⟨_, rfl⟩
  obtain ⟨k, hk⟩ : ∃ k, wiN n 5 = k := ⟨_, rfl⟩
  rw [ha', hk] at hsm
  rw [hk] at hk5
  rw [ha'] at hsz
  unfold exCells at hlit hof hone
  have HWH := Lib.hid hwh
  have HAC := Lib.hid hac
  have HSM := Lib.hid hsm
  have HL := Lib.hid hlit
  have HF := Lib.hid hof
  have HO := Lib.hid hone
  clear hwh hac hsm hlit hof hone h hwf ha' hk
  go_enter Try.func3, Try.ntmps3
  go_wp2_with fail
  refine (HL.out _).mono ?_
  rintro e w1 ⟨rfl, hb1⟩
  have hgx : Blk w1 w.heap.size 24 #[.slice A g.length cp] := (blk_at rfl).below hb1 (by simp)
  have hw1 : Below w.heap.size w w1 := ((Below.refl _ w).alloc (Nat.le_refl _) _).trans (hb1.mono (by simp))
  have hz1 := hw1.size
  have hgl1 := hgx.lt
  clear hb1
  go_wp2_with fail
  refine (HF.out _ _ _ _ _).mono ?_
  rintro e w2 ⟨rfl, hb2⟩
  have hk2 := Blk.below (blk_at (w := w1) (t := 35) rfl) hb2 (by simp)
  have hgx2 := (hgx.alloc _).below hb2 (by simp; omega)
  have hw2 : Below w.heap.size w w2 := (hw1.alloc hz1 _).trans (hb2.mono (by simp; omega))
  clear hb2 hgx hw1
  go_wp2_with fail
  refine (HO.out _ _ hk2).mono ?_
  rintro e w3 ⟨b, rfl, hG, hb3⟩
  have hgx3 := hgx2.below hb3 hgx2.lt
  have hw3 := hw2.trans (hb3.mono hw2.size)
  clear hb3 hgx2 hw2 hk2
  have hst := whole_any hG (wf_g1 (wf_of (by unfold I64; omega) (fun e he => by simp only [List.mem_singleton] at he; subst he; exact wf_lit _))) ⟨#[120, 121]⟩ 2 (by decide) (by decide)
  have HST := Lib.hid hst
  clear hst hG
  go_wp2_with fail
  refine HST.out.mono ?_
  rintro e w4 ⟨hb4, hq⟩
  have hgx4 := hgx3.below hb4 hgx3.lt
  have hw4 := hw3.trans (hb4.mono hw3.size)
  clear hgx3 hw3 hz1 hgl1 HST
  rcases hq with ⟨hbad, _⟩ | ⟨_, V, c, l, hl, rfl, hown⟩
  · exact absurd star_lookok hbad
  have hl3 : l = [⟨#[]⟩, ⟨#[120]⟩, ⟨#[120, 120]⟩] := hl.trans star_all
  have hrd : Reads w4 w4.heap.size 1 V 3 ([(⟨#[]⟩ : ByteArray), ⟨#[120]⟩, ⟨#[120, 120]⟩].map Value.string) := by
    have := Reads.of_own hown
    rw [hl3] at this
    exact this
  have heq := fun (W : World) (hW : Below w4.heap.size w4 W) (b' : Nat) (hb' : Blk W b' 9 #[.string ⟨#[]⟩, .string ⟨#[120]⟩, .string ⟨#[120, 120]⟩]) => equalS_any V (some ⟨b', 0, none⟩) 3 c 3 3 _ [⟨#[]⟩, ⟨#[120]⟩, ⟨#[120, 120]⟩] _ (b' + 1) W ((hrd.below hW).more hW.size) ⟨rfl, fun _ => ⟨⟨b', 0, none⟩, rfl, by simp, fun i x hi => by
    match i, hi with
    | 0, hi => cases hi; exact hb'.cell 0
    | 1, hi => cases hi; exact hb'.cell 1
    | 2, hi => cases hi; exact hb'.cell 2⟩⟩ (by decide) (by decide)
  have HE := Lib.hid heq
  have hlen : l.length = 3 := by rw [hl3]; rfl
  rw [hlen]
  have hz4 := hw4.size
  have hgl4 := hgx4.lt
  clear heq hrd hown hl hl3 hb4 hlen
  go_wp2_with fail
  refine (HE.out _ ((Below.refl _ _).alloc (Nat.le_refl _) _) _ (blk_at rfl)).mono ?_
  rintro e w5 ⟨rfl, d, rfl⟩
  have hw5 : Below w.heap.size w ((w4.alloc (.cells #[.string ⟨#[]⟩, .string ⟨#[120]⟩, .string ⟨#[120, 120]⟩] 9)).drewN d) := (by repeat (first | exact Below.refl _ _ | assumption | refine Below.drew ?_ | refine below_drewN ?_ _ | refine Below.alloc ?_ (by first | omega | (simp; omega) | simp) _ | refine Below.setCell ?_ (by first | omega | (simp; omega) | simp) _))
  have hgx5 := (hgx4.alloc (.cells #[.string ⟨#[]⟩, .string ⟨#[120]⟩, .string ⟨#[120, 120]⟩] 9)).drewN d
  generalize ((w4.alloc (.cells #[.string ⟨#[]⟩, .string ⟨#[120]⟩, .string ⟨#[120, 120]⟩] 9)).drewN d) = w5 at hw5 hgx5 ⊢
  have hz5 := hw5.size
  have hgl5 := hgx5.lt
  clear HE hw4 hz4 hgx4 hgl4
  simp only [decide_true]
  go_wp2_with fail
  refine (HSM.out _).mono ?_
  rintro e w6 ⟨rfl, hb6⟩
  have hgx6 := hgx5.below hb6 hgx5.lt
  have hw6 : Below w.heap.size w w6 := hw5.trans (hb6.mono hw5.size)
  have g6 : w6.cell? ⟨w.heap.size, 0, none⟩ = some (.slice A g.length cp) := hgx6.cell 0
  clear hb6 hw5 hgx5 hz5 hgl5
  go_wp2_with fail
  refine (HWH.out _ hw6 a' k (by omega) (by omega)).mono ?_
  rintro e w7 ⟨hb7, hq⟩
  have hgx7 := hgx6.below hb7 hgx6.lt
  have hw7 : Below w.heap.size w w7 := hw6.trans (hb7.mono hw6.size)
  have g7 : w7.cell? ⟨w.heap.size, 0, none⟩ = some (.slice A g.length cp) := hgx7.cell 0
  clear hb7 g6 hw6 hgx6
  rcases hq with ⟨hbad, x, h0, h11, rfl⟩ | ⟨hlo, V7, c7, l7, hl7, rfl, hown7⟩
  · have hxb : (x != 0) = true := by rw [bne_iff_ne]; exact h0
    have hx11 : (x != 11) = true := by rw [bne_iff_ne]; exact h11
    clear h0 h11 hbad
    go_wp2
    go_ret
    exact ⟨rfl, hw7⟩
  · obtain ⟨hwell, hao, -⟩ := hlo
    have hmem : ∀ j x, l7[j]? = some x → OverOk a'.data.toList x.data.toList ∧ x.size ≤ k ∧ accG g x = true ∧ lookG g x = 0 := fun j x hx => by
      have h1 := List.mem_of_getElem? hx
      rw [hl7, mem_allL hao (by omega)] at h1
      have h2 := h1.1.1.2.1
      rw [size_list] at h2
      exact ⟨h1.1.1, h1.1.2, h1.2, look_of hwell (by omega)⟩
    have hsort : l7.Pairwise fun u v => rank a'.data.toList u.data.toList < rank a'.data.toList v.data.toList := by rw [hl7]; exact allL_sorted hao (by omega)
    have hfin : ∀ x : ByteArray, OverOk a'.data.toList x.data.toList → x.size ≤ k → decide (x ∈ l7) = accG g x := fun x h1 h2 => by
      rw [hl7, Bool.eq_iff_iff, decide_eq_true_iff, mem_allL hao (by omega)]
      exact ⟨fun h => h.2, fun h => ⟨⟨h1, h2⟩, h⟩⟩
    have hln : l7.length ≤ 5000 := by
      rw [hl7]
      unfold allL
      have h1 := List.length_filter_le (accG g) (textsL a'.data.toList [] k)
      have h2 : (textsL a'.data.toList [] k).length ≤ 5000 := by
        rw [textsL_len, rank_zero]
        have h3 : a'.data.toList.length = a'.size := size_list a'
        rw [h3]
        have h4 : shN a'.size (k + 1) ≤ shN a'.size 5 := shN_mono (by omega)
        have h5 : ∀ m : Fin 4, shN m.val 5 ≤ 5000 := by decide +kernel
        have h6 := h5 ⟨a'.size, by omega⟩
        simp only at h6
        omega
      omega
    have HRD := Lib.hid (Reads.of_own hown7)
    have HMEM := Lib.hid hmem
    have HSORT := Lib.hid hsort
    have HFIN := Lib.hid hfin
    have HAO := Lib.hid hao
    have ha140 : a'.size ≤ 140737488351232 := by omega
    clear hmem hsort hfin hl7 hown7 hwell hao
    go_wp2
    go_loopw [13, 61] (fun v i wr => ∃ j : Nat, j ≤ l7.length ∧ i = .int .i64 j ∧ v = .int .i64 (lastR a'.data.toList l7 j) ∧ Below w.heap.size w wr ∧ Below w7.heap.size w7 wr) (fun _ i _ => l7.length - (intOf i).toNat)
    case atStart => exact ⟨0, by omega, rfl, rfl, hw7, Below.refl _ _⟩
    case round =>
      obtain ⟨j, hj, rfl, rfl, hwr, h7r⟩ := hrel
      have hgxr := hgx7.below h7r hgx7.lt
      have hzr := hwr.size
      have hz7 := h7r.size
      have hglr := hgxr.lt
      have gr : wr.cell? ⟨w.heap.size, 0, none⟩ = some (.slice A g.length cp) := hgxr.cell 0
      by_cases hjn : j < l7.length
      · obtain ⟨ad, x, rfl, hab, hg, e0⟩ := reads_str (HRD.out.below h7r) hjn
        obtain ⟨hov, hxk, hacx, hlkx⟩ := HMEM.out j x hg
        have hx6 : x.size ≤ 140737488351232 := by omega
        have hrl := rank_small hov
        have hlt := lastR_lt HSORT.out hg
        have hnx : lastR a'.data.toList l7 (j + 1) = rank a'.data.toList x.data.toList := by
          simp only [lastR]
          rw [List.getD_eq_getElem?_getD, hg]
          rfl
        have HOV := Lib.hid hov
        have HNX := Lib.hid hnx
        have hac1 := fun W (hW : Below w.heap.size w W) => HAC.out W hW x
        rw [hacx, hlkx] at hac1
        have HA1 := Lib.hid hac1
        have hrk := fun W => rank_yes a' x W ha140 hx6 hov
        generalize rank a'.data.toList x.data.toList = R at hrl hlt hrk HNX
        have HRK := Lib.hid hrk
        have hle : ((R : Int) ≤ lastR a'.data.toList l7 j) = False := by simp; omega
        have hgt : ((k : Int) < (x.size : Int)) = False := by simp; omega
        have hji : (j : Int) < (l7.length : Int) := by omega
        generalize lastR a'.data.toList l7 j = LR at hle hlt
        clear hov hnx hac1 hrk hg hacx hlkx hlt
        go_wp2_with fail
        refine (HRK.out _).mono ?_
        rintro e w8 ⟨rfl, d8, rfl⟩
        go_wp2_with fail
        refine (HA1.out _ (below_drewN hwr d8)).mono ?_
        rintro e w9 ⟨rfl, hb9⟩
        have hw9 : Below w.heap.size w w9 := (below_drewN hwr d8).trans (hb9.mono (by simp; omega))
        have h79 : Below w7.heap.size w7 w9 := (below_drewN h7r d8).trans (hb9.mono (by simp; omega))
        clear hb9
        go_wp2
        go_roundw
        case rel => exact ⟨j + 1, by omega, by go_num, by rw [HNX.out], hw9, h79⟩
        case measure => simp [intOf]; omega
      · obtain rfl : j = l7.length := by omega
        have hac1 := fun W (hW : Below w.heap.size w W) => HAC.out W hW s
        have hls := HFIN.out s
        generalize lookG g s = lx at hac1
        generalize accG g s = ax at hac1 hls
        have HA1 := Lib.hid hac1
        have HLS := Lib.hid hls
        have hov := fun W => over_any a' s W ha140 hs
        have HOV := Lib.hid hov
        have hct := fun W (hW : Below w7.heap.size w7 W) => containsS_any V7 l7.length c7 l7 _ s W (HRD.out.below hW) (by omega)
        have HCT := Lib.hid hct
        have hls' : s.data.toList.length = s.size := size_list s
        have HSZ := Lib.hid hls'
        clear hac1 hov hct hls hls'
        by_cases hl0 : lx = 0
        · subst hl0
          by_cases ho : OverOk a'.data.toList s.data.toList
          · have HO' := Lib.hid ho
            by_cases hsk : s.size ≤ k
            · have hq := HLS.out ho hsk
              rw [hq] at HCT
              have hgt : ((k : Int) < (s.size : Int)) = False := by simp; omega
              clear ho hq
              go_wp2_with fail
              refine (HA1.out _ hwr).mono ?_
              rintro e w8 ⟨rfl, hb8⟩
              have hw8 : Below w.heap.size w w8 := hwr.trans (hb8.mono hzr)
              have h78 : Below w7.heap.size w7 w8 := h7r.trans (hb8.mono hz7)
              clear hb8
              go_wp2_with fail
              refine (HOV.out _).mono ?_
              rintro e w9 ⟨⟨y, rfl, hy⟩, d, rfl⟩
              obtain rfl := hy.2 HO'.out
              clear hy
              go_wp2_with fail
              refine (HCT.out _ (below_drewN h78 d)).mono ?_
              rintro e w10 ⟨rfl, d', rfl⟩
              have hbb : (ax == ax) = true := by simp
              go_wp2
              go_ret
              exact ⟨ret_bool (by first | exact hbb | simp), (by repeat (first | exact Below.refl _ _ | assumption | refine Below.drew ?_ | refine below_drewN ?_ _ | refine Below.alloc ?_ (by first | omega | (simp; omega) | simp) _ | refine Below.setCell ?_ (by first | omega | (simp; omega) | simp) _))⟩
            · have hgt : (k : Int) < (s.size : Int) := by omega
              clear ho
              go_wp2_with fail
              refine (HA1.out _ hwr).mono ?_
              rintro e w8 ⟨rfl, hb8⟩
              have hw8 : Below w.heap.size w w8 := hwr.trans (hb8.mono hzr)
              clear hb8
              go_wp2_with fail
              refine (HOV.out _).mono ?_
              rintro e w9 ⟨⟨y, rfl, hy⟩, d, rfl⟩
              obtain rfl := hy.2 HO'.out
              clear hy
              go_wp2
              go_ret
              exact ⟨rfl, (by repeat (first | exact Below.refl _ _ | assumption | refine Below.drew ?_ | refine below_drewN ?_ _ | refine Below.alloc ?_ (by first | omega | (simp; omega) | simp) _ | refine Below.setCell ?_ (by first | omega | (simp; omega) | simp) _))⟩
          · have HO' := Lib.hid ho
            clear ho
            go_wp2_with fail
            refine (HA1.out _ hwr).mono ?_
            rintro e w8 ⟨rfl, hb8⟩
            have hw8 : Below w.heap.size w w8 := hwr.trans (hb8.mono hzr)
            clear hb8
            go_wp2_with fail
            refine (HOV.out _).mono ?_
            rintro e w9 ⟨⟨y, rfl, hy⟩, d, rfl⟩
            have hyb : (y != 0) = true := by rw [bne_iff_ne]; exact fun h => HO'.out (hy.1 h)
            clear hy
            go_wp2
            go_ret
            exact ⟨rfl, (by repeat (first | exact Below.refl _ _ | assumption | refine Below.drew ?_ | refine below_drewN ?_ _ | refine Below.alloc ?_ (by first | omega | (simp; omega) | simp) _ | refine Below.setCell ?_ (by first | omega | (simp; omega) | simp) _))⟩
        · have hxb : (lx != 0) = true := by rw [bne_iff_ne]; exact hl0
          clear hl0
          go_wp2_with fail
          refine (HA1.out _ hwr).mono ?_
          rintro e w8 ⟨rfl, hb8⟩
          have hw8 : Below w.heap.size w w8 := hwr.trans (hb8.mono hzr)
          clear hb8
          go_wp2
          go_ret
          exact ⟨rfl, hw8⟩
end Go.Proofs.Ytlamphneimpdlaa
