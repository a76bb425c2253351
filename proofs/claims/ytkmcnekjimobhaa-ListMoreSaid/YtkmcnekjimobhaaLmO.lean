/- chaffref.Over of an alphabet that is right. -/
import Derived.Test.YtkmcnekjimobhaaLmB
namespace Go.Proofs.Ytkmcnekjimobhaa
open Go.RowKit

/-- where a byte stands first -/
def idxY (x : UInt8) : List UInt8 → Nat → Int
  | [], _ => -1
  | y :: l, j => if x = y then (j : Int) else idxY x l (j + 1)
theorem idxY_ge (x : UInt8) : ∀ (l : List UInt8) (j : Nat), decide (0 ≤ idxY x l j) = decide (x ∈ l)
  | [], j => by simp [idxY]
  | y :: l, j => by
    unfold idxY
    by_cases h : x = y
    · rw [if_pos h, h]; simp
    · rw [if_neg h, idxY_ge x l (j + 1)]
      simp [h]
set_option maxRecDepth 100000 in
set_option maxHeartbeats 4000000 in
theorem indexY_any (l : List UInt8) (ad : Addr) (c n : Nat) (x : UInt8) (w : World) (h : ByAt w ad l) (hn : l.length = n) (h8 : n ≤ 8) :
    Calls Try.prog 110 #[.slice (some ad) n c, .int .u8 (x.toNat : Int)] w fun e w' => e = .returned (.int .i64 (idxY x l 0)) ∧ ∃ d, w' = w.drewN d := by
  have HH := Lib.hid h
  have HN := Lib.hid hn
  have HX : Hid (idxY x l 0 = idxY x (l.drop 0) 0) := by exact rfl
  generalize idxY x l 0 = y at HX ⊢
  clear h hn
  go_enter Try.func110, Try.ntmps110
  go_wp2
  go_loopw [8] (fun i wr => ∃ j d : Nat, j ≤ n ∧ i = .int .i64 j ∧ Hid (y = idxY x (l.drop j) j) ∧ wr = w.drewN d) (fun i _ => n - (intOf i).toNat)
  case atStart => exact ⟨0, 0, by omega, rfl, HX, rfl⟩
  case round =>
    obtain ⟨j, d, hj, rfl, HR, rfl⟩ := hrel
    by_cases hjn : j < n
    · obtain ⟨z, hz⟩ : ∃ z, l[j]? = some z := ⟨_, List.getElem?_eq_getElem (by rw [HN.out]; exact hjn)⟩
      have e0 := HH.out j (by rw [HN.out]; exact hjn)
      have hbt : bt l j = z.toNat := by simp [bt, List.getD_eq_getElem?_getD, hz]
      rw [hbt] at e0
      have HD := Lib.hid (drop_of hz)
      have hji : (j : Int) < (n : Int) := by omega
      clear hz hbt
      by_cases heq : x = z
      · have HE : Hid (y = (j : Int)) := HR.out.trans (by rw [HD.out, idxY, if_pos heq])
        subst heq
        have hq : ((x.toNat : Int) == (x.toNat : Int)) = true := by simp
        go_wp2
        go_ret
        exact ⟨ret_int HE.out.symm, d, rfl⟩
      · have HE : Hid (y = idxY x (l.drop (j + 1)) (j + 1)) := HR.out.trans (by rw [HD.out, idxY, if_neg heq])
        have hq : ((x.toNat : Int) == (z.toNat : Int)) = false := by
          rw [beq_eq_false_iff_ne]
          exact fun e => heq (UInt8.toNat_inj.1 (by omega))
        clear heq
        generalize (x.toNat : Int) = xi at hq
        generalize (z.toNat : Int) = zi at hq e0
        go_wp2
        go_roundw
        case rel => exact ⟨j + 1, d, by omega, by go_num, HE, rfl⟩
        case measure => simp [intOf]; omega
    · obtain rfl : j = n := by omega
      have HE : Hid (y = -1) := HR.out.trans (by rw [List.drop_of_length_le (by rw [HN.out]; omega), idxY])
      go_wp2
      go_ret
      exact ⟨ret_int HE.out.symm, d, rfl⟩
set_option maxRecDepth 100000 in
theorem containsY_any (l : List UInt8) (ad : Addr) (c n : Nat) (x : UInt8) (w : World) (h : ByAt w ad l) (hn : l.length = n) (h8 : n ≤ 8) :
    Calls Try.prog 78 #[.slice (some ad) n c, .int .u8 (x.toNat : Int)] w fun e w' => e = .returned (.bool (decide (x ∈ l))) ∧ ∃ d, w' = w.drewN d := by
  have HIX := Lib.hid (indexY_any l ad c n x w h hn h8)
  have HG : Hid (decide (0 ≤ idxY x l 0) = decide (x ∈ l)) := idxY_ge x l 0
  generalize idxY x l 0 = y at HIX HG
  clear h hn
  generalize (x.toNat : Int) = xi at HIX ⊢
  go_enter Try.func78, Try.ntmps78
  go_wp2_with fail
  refine HIX.out.mono ?_
  rintro e w' ⟨rfl, d, rfl⟩
  go_wp2
  go_ret
  exact ⟨ret_bool HG.out, d, rfl⟩

/-- what Over answers -/
def ovN (a s : List UInt8) : Int := if ∀ c ∈ s, c ∈ a then 0 else 12
set_option maxRecDepth 100000 in
set_option maxHeartbeats 4000000 in
theorem overR_any (a s : ByteArray) (h : AlphaOk a.data.toList) (hs : s.size ≤ 6) (w : World) : Calls Try.prog 42 #[.string a, .string s] w fun e w' => e = .returned (.int .i64 (ovN a.data.toList s.data.toList)) ∧ Below w.heap.size w w' := by
  have hal := alphaR_any a h w
  have hsz : a.data.toList.length = a.size := size_list a
  have hss : s.data.toList.length = s.size := size_list s
  have h8 : a.size ≤ 8 := by have := h.2.1; omega
  have h6 : ¬ (6 : Int) < (s.size : Int) := by omega
  have hcn := fun (x : UInt8) (W : World) (R : Array Value) (b C : Nat) (hb : BlkZ W b 5 R) (ht : R.toList.take a.size = u8s a.data.toList) => containsY_any a.data.toList ⟨b, 0, none⟩ C a.size x W (fun i hi => by
    have hx : (u8s a.data.toList)[i]? = some (.int .u8 (bt a.data.toList i)) := by
      rw [u8s_get (List.getElem?_eq_getElem hi)]
      simp [bt, List.getD_eq_getElem?_getD, List.getElem?_eq_getElem hi]
    rw [cell_add, hb.cell]
    rw [← ht, List.getElem?_take, if_pos (by omega), Array.getElem?_toList] at hx
    exact hx) hsz h8
  have hcv := fun W => run_bytes_of_string (P := Try.prog) W 9 145 5 a Try.underlying9 Try.underlying145 Try.underlying5
  have HAL := Lib.hid hal
  have HCN := Lib.hid hcn
  have HCV := Lib.hid hcv
  have HSS := Lib.hid hss
  clear hal hcn hcv hsz hss h
  go_enter Try.func42, Try.ntmps42
  go_wp2_with fail
  refine HAL.out.mono ?_
  rintro e w1 ⟨rfl, hb1⟩
  go_wp2
  go_loopw [6, 17] (fun _ i wr => ∃ j : Nat, j ≤ s.size ∧ i = .int .i64 j ∧ (∀ c ∈ s.data.toList.take j, c ∈ a.data.toList) ∧ Below w.heap.size w wr) (fun _ i _ => s.size - (intOf i).toNat)
  case atStart => exact ⟨0, by omega, rfl, by simp, hb1⟩
  case round =>
    obtain ⟨j, hj, rfl, hall, hbw⟩ := hrel
    have hzw := hbw.size
    by_cases hjn : j < s.size
    · have hji : (j : Int) < (s.size : Int) := by omega
      have hg := get_byte hjn
      have hcv := HCV.out
      have HLD := Lib.hid (bytes_laid wr 5 a (grownCap wr a.size 0 5) (grownCap_ge wr a.size 0 5) rfl)
      obtain ⟨x, hx⟩ : ∃ x, x = s[j] := ⟨_, rfl⟩
      go_wp2_with fail
      clear hcv
      have hld := HLD.out
      clear HLD
      generalize grownCap wr a.size 0 5 = C at hld ⊢
      obtain ⟨hb0, ht0, hs0⟩ := hld
      have hw0 : Below w.heap.size w (wr.alloc (.cells (bytesRow a C) 5 ((bytesRow a C).size, (bytesRow a C).size + 1))).drew := (hbw.alloc hzw _).drew
      generalize bytesRow a C = R at hb0 ht0 hs0 hw0 ⊢
      have hb1 : BlkZ (wr.alloc (.cells R 5 (R.size, R.size + 1))).drew wr.heap.size 5 R := hb0.drew
      generalize (wr.alloc (.cells R 5 (R.size, R.size + 1))).drew = w0 at hb1 hw0 ⊢
      clear hb0 hs0
      rw [← hx] at hg ⊢
      refine (HCN.out x w0 R _ C hb1 ht0).mono ?_
      rintro e w2 ⟨rfl, d2, rfl⟩
      have hw2 : Below w.heap.size w (w0.drewN d2) := below_drewN hw0 d2
      clear hb1 ht0 hw0
      by_cases hin : x ∈ a.data.toList
      · rw [decide_eq_true hin]
        have HA : Hid (∀ c ∈ s.data.toList.take (j + 1), c ∈ a.data.toList) := fun c hc => by
          rw [take_succ_of hg] at hc
          rcases List.mem_append.1 hc with hc | hc
          · exact hall c hc
          · simp at hc; rw [hc]; exact hin
        clear hin hg hx
        go_wp2
        go_roundw
        case rel => exact ⟨j + 1, by omega, by go_num, HA.out, hw2⟩
        case measure => simp [intOf]; omega
      · rw [decide_eq_false hin]
        have HV : Hid (ovN a.data.toList s.data.toList = 12) := if_neg fun h => hin (h x (List.mem_of_getElem? hg))
        clear hin hg hx
        go_wp2
        go_ret
        exact ⟨ret_int HV.out.symm, hw2⟩
    · obtain rfl : j = s.size := by omega
      have HV : Hid (ovN a.data.toList s.data.toList = 0) := if_pos (by rw [List.take_of_length_le (by rw [HSS.out]; omega)] at hall; exact hall)
      go_wp2
      go_ret
      exact ⟨ret_int HV.out.symm, hbw⟩
end Go.Proofs.Ytkmcnekjimobhaa
