/- chaffref.Alpha of what rises: slices.Sort and slices.Compact leave it as it is. -/
import Derived.Test.YtkmcnekjimobhaaGA
import Derived.Test.YtkmcnekjimobhaaGP
import Derived.Test.YtkmcnekjimobhaaGC
import Derived.Test.YtkmcnekjimobhaaGF
import Derived.Test.YtkmcnekjimobhaaShL
namespace Go.Proofs.Ytkmcnekjimobhaa
open Go.RowKit

set_option maxRecDepth 100000 in
theorem isnan_any (x : Int) (w : World) : Calls Try.prog 155 #[.int .u8 x] w fun e w' => e = .returned (.bool false) ∧ w' = w := by
  go_enter Try.func155, Try.ntmps155
  go_wp2
  go_ret
  exact ⟨by simp, rfl⟩
set_option maxRecDepth 100000 in
theorem lessb_any (x y : Int) (w : World) : Calls Try.prog 143 #[.int .u8 x, .int .u8 y] w fun e w' => e = .returned (.bool (decide (x < y))) ∧ w' = w := by
  have HX := Lib.hid (isnan_any x)
  go_enter Try.func143, Try.ntmps143
  go_wp2_with fail
  refine (HX.out _).mono ?_
  rintro e w1 ⟨rfl, rfl⟩
  go_wp2
  go_ret
  exact ⟨by simp, rfl⟩

/-- bytes that can be read -/
def ByAt (w : World) (ad : Addr) (l : List UInt8) : Prop := ∀ i, i < l.length → w.cell? (ad.add i) = some (.int .u8 (bt l i))
theorem ByAt.drew {w : World} {ad : Addr} {l : List UInt8} (h : ByAt w ad l) (d : Nat) : ByAt (w.drewN d) ad l := fun i hi => h i hi

set_option maxRecDepth 100000 in
set_option maxHeartbeats 4000000 in
theorem insb_any (l : List UInt8) (ad : Addr) (c : Nat) (w : World) (h : ByAt w ad l) (hr : Rises l l.length) (h8 : l.length ≤ 8) :
    Calls Try.prog 137 #[.slice (some ad) l.length c, .int .i64 0, .int .i64 l.length] w fun e w' => e = .returned (.tuple #[]) ∧ ∃ d, w' = w.drewN d := by
  have HQ : Hid (∀ d, (fun (e : Ending) w' => e = .returned (.tuple #[]) ∧ ∃ d, w' = w.drewN d) (.returned (.tuple #[])) (w.drewN d)) := fun d => ⟨rfl, d, rfl⟩
  generalize (fun (e : Ending) w' => e = .returned (.tuple #[]) ∧ ∃ d, w' = w.drewN d) = Q at HQ ⊢
  have HH := Lib.hid h
  have HR := Lib.hid hr
  have HL := Lib.hid lessb_any
  generalize hn : l.length = n at *
  clear h hr
  go_enter Try.func137, Try.ntmps137
  go_wp2
  go_loopw [6, 7] (fun i _ wr => ∃ m d : Nat, 1 ≤ m ∧ (m = 1 ∨ m ≤ n) ∧ i = .int .i64 (m : Int) ∧ wr = w.drewN d) (fun i _ _ => n - (intOf i).toNat)
  case atStart => exact ⟨1, 0, by omega, .inl rfl, rfl, rfl⟩
  case round =>
    obtain ⟨m, d, hm1, hm, rfl, rfl⟩ := hrel
    by_cases hmn : m < n
    · obtain ⟨k, hmk⟩ : ∃ k, m = k + 1 := ⟨m - 1, by omega⟩
      have hki : (m : Int) < (n : Int) := by omega
      have hkk : (k : Int) < (n : Int) := by omega
      have hgt : (0 : Int) < (m : Int) := by omega
      have hgt2 : 0 < m := by omega
      have hwr : IntKind.i64.wrap ((m : Int) - 1) = (k : Int) := by rw [show (m : Int) - 1 = (k : Int) by omega]; exact IntWalk.i64_in _ (by omega)
      have hlt : ¬ (((bt l m : Nat) : Int) < ((bt l k : Nat) : Int)) := by
        have := HR.out m (by omega) hmn
        rw [show m - 1 = k by omega] at this
        omega
      have hc1 := HH.out m (by omega)
      have hc0 := HH.out k (by omega)
      have HMK := Lib.hid hmk
      have hltd : decide (((bt l m : Nat) : Int) < ((bt l k : Nat) : Int)) = false := decide_eq_false hlt
      generalize bt l m = bm at hc1 hltd
      generalize bt l k = bk at hc0 hltd
      have hl2 := fun W => (HL.out bm bk W)
      simp only [hltd] at hl2
      have HL2 := Lib.hid hl2
      clear hmk hlt hltd hl2
      rename World => ws
      go_wp2
      go_loopw [7] (fun j wr => j = .int .i64 (m : Int) ∧ ∃ d : Nat, wr = ws.drewN d) (fun _ _ => 0)
      case atStart => exact ⟨rfl, d, rfl⟩
      case round =>
        obtain ⟨rfl, d2, rfl⟩ := hrel
        go_wp2_with fail
        refine wp_region_q (fun W => ∃ d, W = ws.drewN d) (by kernel_rfl) (by kernel_rfl) ⟨d2 + 1, rfl⟩ ?_
        repeat
          (first | ((with_reducible apply QW.free rfl); · (intro W hW; obtain ⟨d3, rfl⟩ := hW; have n1 : (ws.drewN d3).cell? (ad.add m) = some (.int .u8 bm) := hc1; have n0 : (ws.drewN d3).cell? (ad.add k) = some (.int .u8 bk) := hc0; go_simp; first | rfl | (go_at_call 143; refine (HL2.out _).mono ?_; rintro e w' ⟨rfl, rfl⟩; exact ⟨rfl, _, rfl⟩))) | ((with_reducible apply QW.skip rfl); · (first | exact ⟨_, _, rfl, rfl, .inl rfl⟩ | exact ⟨_, _, rfl, rfl, .inr rfl⟩)) | ((with_reducible apply QW.take rfl); (· exact ⟨_, rfl, rfl⟩); (· (intro W hW; obtain ⟨d3, rfl⟩ := hW; have n1 : (ws.drewN d3).cell? (ad.add m) = some (.int .u8 bm) := hc1; have n0 : (ws.drewN d3).cell? (ad.add k) = some (.int .u8 bk) := hc0; go_simp; first | rfl | (go_at_call 143; refine (HL2.out _).mono ?_; rintro e w' ⟨rfl, rfl⟩; exact ⟨rfl, _, rfl⟩))))); (try simp only [Act.put, List.setIfInBounds_toArray, List.set_cons_zero, List.set_cons_succ])
        refine QW.nil ?_
        rintro w5 ⟨d5, rfl⟩
        go_wp2
        go_roundw
        case rel => exact ⟨m + 1, d5, by omega, .inr (by omega), by go_num, rfl⟩
        case measure => simp [intOf]; omega
    · go_wp2
      exact bodyPost_ret (v := .tuple #[]) (by simp [results, Try.results137, go_sem]) rfl (HQ.out d)

set_option maxRecDepth 100000 in
set_option maxHeartbeats 4000000 in
theorem pdqb_any (l : List UInt8) (ad : Addr) (c : Nat) (lim : Int) (w : World) (h : ByAt w ad l) (hr : Rises l l.length) (h8 : l.length ≤ 8) :
    Calls Try.prog 129 #[.slice (some ad) l.length c, .int .i64 0, .int .i64 l.length, .int .i64 lim] w fun e w' => e = .returned (.tuple #[]) ∧ ∃ d, w' = w.drewN d := by
  have HQ : Hid (∀ d, (fun (e : Ending) w' => e = .returned (.tuple #[]) ∧ ∃ d, w' = w.drewN d) (.returned (.tuple #[])) (w.drewN d)) := fun d => ⟨rfl, d, rfl⟩
  generalize (fun (e : Ending) w' => e = .returned (.tuple #[]) ∧ ∃ d, w' = w.drewN d) = Q at HQ ⊢
  have HI := Lib.hid (fun W d (e : W = w.drewN d) => insb_any l ad c W (by rw [e]; exact h.drew d) hr h8)
  have hn : (l.length : Int) ≤ 12 := by omega
  have hw : IntKind.i64.wrap (l.length : Int) = (l.length : Int) := IntWalk.i64_in _ (by omega)
  clear h hr
  generalize l.length = n at *
  go_enter Try.func129, Try.ntmps129
  go_wp2
  go_loopw [1, 2] (fun a b wr => a = .int .i64 0 ∧ b = .int .i64 n ∧ ∃ d : Nat, wr = w.drewN d) (fun _ _ _ => 0)
  case atStart => exact ⟨rfl, rfl, 0, rfl⟩
  case round =>
    obtain ⟨rfl, rfl, d, rfl⟩ := hrel
    go_wp2_with fail
    refine (HI.out _ d rfl).mono ?_
    rintro e w1 ⟨rfl, d1, rfl⟩
    go_wp2
    exact bodyPost_ret (v := .tuple #[]) (by simp [results, Try.results129, go_sem]) rfl (HQ.out (d + d1))

set_option maxRecDepth 100000 in
set_option maxHeartbeats 4000000 in
theorem sortb_any (l : List UInt8) (ad : Addr) (c : Nat) (w : World) (h : ByAt w ad l) (hr : Rises l l.length) (h8 : l.length ≤ 8) :
    Calls Try.prog 108 #[.slice (some ad) l.length c] w fun e w' => e = .returned (.tuple #[]) ∧ ∃ d, w' = w.drewN d := by
  have HQ : Hid (∀ d, (fun (e : Ending) w' => e = .returned (.tuple #[]) ∧ ∃ d, w' = w.drewN d) (.returned (.tuple #[])) (w.drewN d)) := fun d => ⟨rfl, d, rfl⟩
  generalize (fun (e : Ending) w' => e = .returned (.tuple #[]) ∧ ∃ d, w' = w.drewN d) = Q at HQ ⊢
  have HP := Lib.hid (fun lim => pdqb_any l ad c lim w h hr h8)
  have HB := Lib.hid (sh_bits_Len (l.length : Int) w (by omega) (by omega))
  have hw : IntKind.u64.wrap (l.length : Int) = (l.length : Int) := by rw [IntKind.wrap_u64]; omega
  clear h hr
  generalize l.length = n at *
  go_enter Try.func108, Try.ntmps108
  go_wp2_with fail
  refine HB.out.mono ?_
  rintro e w1 ⟨rfl, rfl⟩
  go_wp2_with fail
  refine (HP.out _).mono ?_
  rintro e w1 ⟨rfl, d1, rfl⟩
  go_wp2
  exact bodyPost_ret (v := .tuple #[]) (by simp [results, Try.results108, go_sem]) rfl (HQ.out d1)

set_option maxRecDepth 100000 in
set_option maxHeartbeats 4000000 in
theorem compactb_any (l : List UInt8) (ad : Addr) (c : Nat) (w : World) (h : ByAt w ad l) (hr : Rises l l.length) (h8 : l.length ≤ 8) :
    Calls Try.prog 109 #[.slice (some ad) l.length c] w fun e w' => e = .returned (.slice (some ad) l.length c) ∧ ∃ d, w' = w.drewN d := by
  have HH := Lib.hid h
  have HR := Lib.hid hr
  generalize hn : l.length = n at *
  clear h hr
  by_cases h2 : n < 2
  · have h2i : (n : Int) < 2 := by omega
    go_enter Try.func109, Try.ntmps109
    go_wp2
    go_ret
    exact ⟨rfl, 0, rfl⟩
  · have h2i : ¬ (n : Int) < 2 := by omega
    go_enter Try.func109, Try.ntmps109
    go_wp2
    go_loopw [3] (fun i wr => ∃ m d : Nat, 1 ≤ m ∧ m ≤ n ∧ i = .int .i64 (m : Int) ∧ wr = w.drewN d) (fun i _ => n - (intOf i).toNat)
    case atStart => exact ⟨1, 0, by omega, by omega, rfl, rfl⟩
    case round =>
      obtain ⟨m, d, hm1, hm, rfl, rfl⟩ := hrel
      by_cases hmn : m < n
      · obtain ⟨k, hmk⟩ : ∃ k, m = k + 1 := ⟨m - 1, by omega⟩
        have hki : (m : Int) < (n : Int) := by omega
        have hkk : (k : Int) < (n : Int) := by omega
        have hwr : IntKind.i64.wrap ((m : Int) - 1) = (k : Int) := by rw [show (m : Int) - 1 = (k : Int) by omega]; exact IntWalk.i64_in _ (by omega)
        have hne : (((bt l m : Nat) : Int) == ((bt l k : Nat) : Int)) = false := by
          have := HR.out m (by omega) hmn
          rw [show m - 1 = k by omega] at this
          rw [beq_eq_false_iff_ne]
          omega
        have hc1 := HH.out m (by omega)
        have hc0 := HH.out k (by omega)
        generalize bt l m = bm at hc1 hne
        generalize bt l k = bk at hc0 hne
        have HMK := Lib.hid hmk
        clear hmk
        rename World => ws
        go_wp2_with fail
        refine wp_region_q (fun W => ∃ d, W = ws.drewN d) (by kernel_rfl) (by kernel_rfl) ⟨d + 1, rfl⟩ ?_
        repeat
          (first | ((with_reducible apply QW.free rfl); · (intro W hW; obtain ⟨d3, rfl⟩ := hW; have n1 : (ws.drewN d3).cell? (ad.add m) = some (.int .u8 bm) := hc1; have n0 : (ws.drewN d3).cell? (ad.add k) = some (.int .u8 bk) := hc0; go_simp; first | rfl | skip)) | ((with_reducible apply QW.skip rfl); · (first | exact ⟨_, _, rfl, rfl, .inl rfl⟩ | exact ⟨_, _, rfl, rfl, .inr rfl⟩)) | ((with_reducible apply QW.take rfl); (· exact ⟨_, rfl, rfl⟩); (· (intro W hW; obtain ⟨d3, rfl⟩ := hW; have n1 : (ws.drewN d3).cell? (ad.add m) = some (.int .u8 bm) := hc1; have n0 : (ws.drewN d3).cell? (ad.add k) = some (.int .u8 bk) := hc0; go_simp; first | rfl | skip)))); (try simp only [Act.put, List.setIfInBounds_toArray, List.set_cons_zero, List.set_cons_succ])
        refine QW.nil ?_
        rintro w5 ⟨d5, rfl⟩
        go_wp2
        go_roundw
        case rel => exact ⟨m + 1, d5, by omega, by omega, by go_num, rfl⟩
        case measure => simp [intOf]; omega
      · go_wp2
        go_ret
        exact ⟨rfl, d, rfl⟩

set_option maxRecDepth 100000 in
set_option maxHeartbeats 4000000 in
theorem alphaR_any (a : ByteArray) (h : AlphaOk a.data.toList) (w : World) : Calls Try.prog 77 #[.string a] w fun e w' => e = .returned (.int .i64 0) ∧ Below w.heap.size w w' := by
  have hsz : a.data.toList.length = a.size := size_list a
  have h1 : (a.size : Int) ≠ 0 := by have := h.1; intro e; exact this (List.eq_nil_of_length_eq_zero (by omega))
  have h2 : ¬ (8 : Int) < (a.size : Int) := by have := h.2.1; omega
  have h3 : ((a.size : Int) == 0) = false := by rw [beq_eq_false_iff_ne]; exact h1
  have hcv := fun W => run_bytes_of_string (P := Try.prog) W 9 145 5 a Try.underlying9 Try.underlying145 Try.underlying5
  go_enter Try.func77, Try.ntmps77
  go_wp2_with fail
  have hC := grownCap_ge w a.size 0 5
  generalize grownCap w a.size 0 5 = C at hC ⊢
  clear hcv
  obtain ⟨hb0, ht0, hs0⟩ := bytes_laid w 5 a C hC rfl
  have hw0 : Below w.heap.size w (w.alloc (.cells (bytesRow a C) 5 ((bytesRow a C).size, (bytesRow a C).size + 1))) := (by repeat (first | exact Below.refl _ _ | assumption | refine Below.drew ?_ | refine below_drewN ?_ _ | refine Below.alloc ?_ (by first | omega | (simp; omega) | simp) _ | refine Below.setCell ?_ (by first | omega | (simp; omega) | simp) _))
  generalize bytesRow a C = R at hb0 ht0 hs0 hw0 ⊢
  have hby : ByAt (w.alloc (.cells R 5 (R.size, R.size + 1))) ⟨w.heap.size, 0, none⟩ a.data.toList := fun i hi => by
    have hx : (u8s a.data.toList)[i]? = some (.int .u8 (bt a.data.toList i)) := by
      rw [u8s_get (List.getElem?_eq_getElem hi)]
      simp [bt, List.getD_eq_getElem?_getD, List.getElem?_eq_getElem hi]
    rw [cell_add, hb0.cell]
    rw [← ht0, List.getElem?_take, if_pos (by omega), Array.getElem?_toList] at hx
    exact hx
  have hby' : ByAt (w.alloc (.cells R 5 (R.size, R.size + 1))).drew ⟨w.heap.size, 0, none⟩ a.data.toList := hby.drew 1
  have hb0' : BlkZ (w.alloc (.cells R 5 (R.size, R.size + 1))).drew w.heap.size 5 R := hb0.drew
  have hw0' : Below w.heap.size w (w.alloc (.cells R 5 (R.size, R.size + 1))).drew := hw0.drew
  have hst := sortb_any a.data.toList ⟨w.heap.size, 0, none⟩ C _ hby' h.2.2 h.2.1
  have hcp := fun d => compactb_any a.data.toList ⟨w.heap.size, 0, none⟩ C _ (hby'.drew d) h.2.2 h.2.1
  have hbk := fun d => string_of (P := Try.prog) (c := C) Try.underlying145 Try.underlying5 Try.underlying9 (hb0'.drewN d) (l := a.data.toList) hsz ht0
  have hdat : (⟨a.data.toList.toArray⟩ : ByteArray) = a := by simp
  rw [hsz] at hst hcp
  rw [hdat] at hbk
  generalize (w.alloc (.cells R 5 (R.size, R.size + 1))).drew = w0 at hst hcp hbk hw0' hby' hb0' ⊢
  have HST := Lib.hid hst
  have HCP := Lib.hid hcp
  clear hst hcp hb0 ht0 hs0 hby h hsz hw0 hby' hb0'
  go_wp2_with fail
  refine HST.out.mono ?_
  rintro e w1 ⟨rfl, d1, rfl⟩
  go_wp2_with fail
  refine (HCP.out d1).mono ?_
  rintro e w2 ⟨rfl, d2, rfl⟩
  have hw2 : Below w.heap.size w (w0.drewN (d1 + d2)) := below_drewN hw0' _
  have hb2 := hbk (d1 + d2)
  have e2 : (w0.drewN d1).drewN d2 = w0.drewN (d1 + d2) := by first | rfl | simp [World.drewN, Nat.add_assoc]
  rw [e2]
  clear hbk e2
  go_wp2
  go_ret
  exact ⟨by simp, hw2⟩
end Go.Proofs.Ytkmcnekjimobhaa
