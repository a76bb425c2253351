/- What quote.Class answers. -/
import Derived.Test.YtndhbdbfjkmloaaDoorQcL
import Derived.Test.YtndhbdbfjkmloaaDoorSetJ
namespace Go.Proofs.YtndhbdbfjkmloaaDoor
open Go.RowKit

theorem app_data' (a b : ByteArray) : (a ++ b).data.toList = a.data.toList ++ b.data.toList := by simp
theorem enc_len' (cls : Bool) (n : Nat) : (enc cls n).length ≤ 4 := by
  unfold enc
  split
  · simp
  · split
    · simp
    · split
      · simp
      · split <;> simp
theorem clsT_len (l : List Nat) : ∀ k r, (clsT l k r).length ≤ 9 * k
  | 0, _ => by simp [clsT]
  | k + 1, r => by
    have ih := clsT_len l k
    rw [clsT]
    split
    · simp
    · rw [List.length_append]
      have h := ih (fstB l (runB l r.toNat + 1))
      have h1 := enc_len' true r.toNat
      have h2 := enc_len' true (runB l r.toNat)
      have h3 : (piece r.toNat (runB l r.toNat)).length ≤ 9 := by
        unfold piece
        rw [List.length_append]
        split
        · omega
        · split
          · rw [List.length_cons]; omega
          · simp; omega
      omega

set_option maxRecDepth 100000 in
set_option maxHeartbeats 2000000 in
theorem class_any (l : List Nat) (hl : Words l) (w : World) (hT : TabAt w) :
    Calls Tryd.prog 57 #[vals l] w fun e w' => (∃ u : ByteArray, e = .returned (.string u) ∧ u.data.toList = clsAll l) ∧ Below w.heap.size w w' := by
  have hpos := hT.pos
  have HT := Lib.hid hT
  have HF : Hid (∀ (f : Nat) (W : World), f ≤ 256 → TabAt W → Calls Tryd.prog 85 #[vals l, .int .i64 f] W fun e w' => e = .returned (.int .i64 (fstB l f)) ∧ Below W.heap.size W w') := fun f W hf hT => (first_any l hl f hf W hT).mono fun e w' ⟨r, h1, h2, h3⟩ => ⟨by rw [h1, h2.uniq (fstB_is l f hf)], h3⟩
  have HH : Hid (∀ (b : Nat) (W : World), b < 256 → Calls Tryd.prog 86 #[vals l, .int .u8 b] W fun e w' => e = .returned (.bool (hasN l b)) ∧ Below W.heap.size W w') := fun b W hb => has_any l hl b hb W
  have HO : Hid (∀ (n : Nat) (W : World), n < 256 → Calls Tryd.prog 73 #[.int .u8 n, .string ⟨#[91, 93, 45, 94, 92]⟩] W fun e w' => e = .returned (.string ⟨(enc true n).toArray⟩) ∧ Below W.heap.size W w') := fun n W hn => one_any true n hn W
  clear hl hT
  unfold vals at HF HH ⊢
  generalize l.getD 0 0 = e0 at HF HH ⊢
  generalize l.getD 1 0 = e1 at HF HH ⊢
  generalize l.getD 2 0 = e2 at HF HH ⊢
  generalize l.getD 3 0 = e3 at HF HH ⊢
  go_enter Tryd.func57, Tryd.ntmps57
  go_wp2_with fail
  refine (HF.out 0 _ (by omega) (HT.out.below ((Below.refl _ _).alloc (Nat.le_refl _) _) hpos)).mono ?_
  rintro e w1 ⟨rfl, hb1⟩
  have hB : Blk w1 w.heap.size 24 #[.int .u64 e0, .int .u64 e1, .int .u64 e2, .int .u64 e3] := (blk_at rfl).below hb1 (by simp)
  have hbw0 : Below w.heap.size w w1 := ((Below.refl _ _).alloc (Nat.le_refl _) _).trans (hb1.mono (by simp))
  clear hb1
  have htot := clsT_len l 257 (fstB l 0)
  have HALL : Hid (clsAll l = (91 :: clsT l 257 (fstB l 0)) ++ [93]) := rfl
  have HR0 := Lib.hid (fstB_is l 0 (by omega))
  generalize hC : clsT l 257 (fstB l 0) = C at htot HALL
  have HC := Lib.hid hC
  clear hC
  generalize hr0 : fstB l 0 = r0 at HC HR0
  have HR00 := Lib.hid hr0
  clear hr0
  go_wp2_with fail
  go_loopw [3, 4] (fun o b wr => ∃ (f k : Nat) (u : ByteArray) (r : Int), f ≤ 256 ∧ 257 ≤ k + f ∧ b = .int .i64 r ∧ o = .string u ∧ Hid (fstB l f = r) ∧ Hid (u.data.toList ++ clsT l k r = 91 :: C) ∧ Below w.heap.size w wr ∧ Blk wr w.heap.size 24 #[.int .u64 e0, .int .u64 e1, .int .u64 e2, .int .u64 e3]) (fun _ b _ => (300 - intOf b).toNat % 301)
  case atStart => exact ⟨0, 257, ⟨#[91]⟩, r0, by omega, by omega, rfl, rfl, HR00, by show _ = _; rw [HC.out]; rfl, hbw0, hB⟩
  case round =>
    obtain ⟨f, k, u, r, hf, hk, rfl, rfl, HFR, HU, hbw, hB⟩ := hrel
    have hus : u.size ≤ 2400 := by
      have h1 := congrArg List.length HU.out
      have h2 := size_list u
      rw [List.length_append, List.length_cons] at h1
      omega
    have z0 : wr.cell? ⟨w.heap.size, 0, none⟩ = some (.int .u64 e0) := hB.cell 0
    have z1 : wr.cell? ⟨w.heap.size, 1, none⟩ = some (.int .u64 e1) := hB.cell 1
    have z2 : wr.cell? ⟨w.heap.size, 2, none⟩ = some (.int .u64 e2) := hB.cell 2
    have z3 : wr.cell? ⟨w.heap.size, 3, none⟩ = some (.int .u64 e3) := hB.cell 3
    by_cases hr0 : 0 ≤ r
    · obtain ⟨b, rfl⟩ := Int.eq_ofNat_of_zero_le hr0
      have hFI : FirstIs l f (b : Int) := by rw [← HFR.out]; exact fstB_is l f hf
      obtain ⟨hfb, hb256, _, _⟩ := hFI.cnt
      have HFI := Lib.hid hFI
      clear hFI
      obtain ⟨k', rfl⟩ : ∃ k', k = k' + 1 := ⟨k - 1, by omega⟩
      go_wp2_with fail
      go_loopw [4] (fun b' wr' => ∃ c : Nat, b ≤ c ∧ c ≤ 255 ∧ b' = .int .i64 c ∧ Hid (runB l c = runB l b) ∧ Below w.heap.size w wr' ∧ Blk wr' w.heap.size 24 #[.int .u64 e0, .int .u64 e1, .int .u64 e2, .int .u64 e3]) (fun b' _ => 255 - (intOf b').toNat)
      case atStart => exact ⟨b, by omega, by omega, rfl, rfl, hbw, hB⟩
      case round =>
        obtain ⟨c, hbc, hc255, rfl, HRC, hbw', hB'⟩ := hrel
        have z0 : wr.cell? ⟨w.heap.size, 0, none⟩ = some (.int .u64 e0) := hB'.cell 0
        have z1 : wr.cell? ⟨w.heap.size, 1, none⟩ = some (.int .u64 e1) := hB'.cell 1
        have z2 : wr.cell? ⟨w.heap.size, 2, none⟩ = some (.int .u64 e2) := hB'.cell 2
        have z3 : wr.cell? ⟨w.heap.size, 3, none⟩ = some (.int .u64 e3) := hB'.cell 3
        by_cases hc : c < 255
        · have hwc1 : IntKind.u8.wrap ((c : Int) + 1) = ((c + 1 : Nat) : Int) := by rw [IntKind.wrap_u8]; omega
          have hci : (c : Int) < 255 := by omega
          have HH1 := HH.out (c + 1)
          cases hv : hasN l (c + 1)
          all_goals rw [hv] at HH1
          all_goals have HH2 := Lib.hid HH1
          all_goals clear HH1
          · have HST : Hid (¬ (c < 255 ∧ hasN l (c + 1) = true)) := by
              rintro ⟨_, h⟩
              rw [hv] at h
              cases h
            clear hv
            go_wp2_with fail
            refine (HH2.out _ (by omega)).mono ?_
            rintro e wt ⟨rfl, hbh⟩
            have hbt := hbw'.trans (hbh.mono hbw'.size)
            have hBt := hB'.below hbh hB'.lt
            clear hbh
            have HRB : Hid (runB l b = c) := by
              show runB l b = c
              rw [← HRC.out]
              exact runB_stop HST.out
            have hwb : IntKind.u8.wrap (b : Int) = (b : Int) := by rw [IntKind.wrap_u8]; omega
            have hwc : IntKind.u8.wrap (c : Int) = (c : Int) := by rw [IntKind.wrap_u8]; omega
            have he1 : (⟨(enc true b).toArray⟩ : ByteArray).size ≤ 4 := (show (enc true b).toArray.size ≤ 4 from by have := enc_len' true b; simpa using this)
            have he2 : (⟨(enc true c).toArray⟩ : ByteArray).size ≤ 4 := (show (enc true c).toArray.size ≤ 4 from by have := enc_len' true c; simpa using this)
            have HO1 : Hid (∀ W, Calls Tryd.prog 73 #[.int .u8 b, .string ⟨#[91, 93, 45, 94, 92]⟩] W fun e w' => e = .returned (.string ⟨(enc true b).toArray⟩) ∧ Below W.heap.size W w') := fun W => HO.out b W hb256
            have HO2 : Hid (∀ W, Calls Tryd.prog 73 #[.int .u8 c, .string ⟨#[91, 93, 45, 94, 92]⟩] W fun e w' => e = .returned (.string ⟨(enc true c).toArray⟩) ∧ Below W.heap.size W w') := fun W => HO.out c W (by omega)
            generalize hE1 : (⟨(enc true b).toArray⟩ : ByteArray) = E1 at he1 HO1
            have HE1 : Hid (enc true b = E1.data.toList) := by show _ = _; rw [← hE1]
            generalize hE2 : (⟨(enc true c).toArray⟩ : ByteArray) = E2 at he2 HO2
            have HE2 : Hid (enc true c = E2.data.toList) := by show _ = _; rw [← hE2]
            clear hE1 hE2
            cases hq1 : ((c : Int) == (b : Int) + 1)
            · have HQ1 : Hid (c ≠ b + 1) := by
                intro e
                rw [e] at hq1
                simp at hq1
              by_cases hgt : b < c
              · go_wp2_with fail
                refine (HO1.out _).mono ?_
                rintro e w3 ⟨rfl, hb3⟩
                have hbz3 := hbt.trans (hb3.mono hbt.size)
                have hBz3 := hBt.below hb3 hBt.lt
                go_wp2_with fail
                refine (HO2.out _).mono ?_
                rintro e w4 ⟨rfl, hb4⟩
                have hbz := hbz3.trans (hb4.mono hbz3.size)
                have hBz := hBz3.below hb4 hBz3.lt
                have y0 : w4.cell? ⟨w.heap.size, 0, none⟩ = some (.int .u64 e0) := hBz.cell 0
                have y1 : w4.cell? ⟨w.heap.size, 1, none⟩ = some (.int .u64 e1) := hBz.cell 1
                have y2 : w4.cell? ⟨w.heap.size, 2, none⟩ = some (.int .u64 e2) := hBz.cell 2
                have y3 : w4.cell? ⟨w.heap.size, 3, none⟩ = some (.int .u64 e3) := hBz.cell 3
                go_wp2_with fail
                refine (HF.out (c + 1) _ (by omega) (HT.out.below hbz hpos)).mono ?_
                rintro e w9 ⟨rfl, hb9⟩
                have h300 : Hid ((300 - fstB l (c + 1)).toNat % 301 < 300 - b) := by
                  show (300 - fstB l (c + 1)).toNat % 301 < 300 - b
                  rcases fstB_is l (c + 1) (by omega) with ⟨x, e, _, _, _, _⟩ | ⟨e, _⟩ <;> omega
                have HR9 : Hid (fstB l (c + 1) = fstB l (c + 1)) := rfl
                generalize hr9 : fstB l (c + 1) = r9 at h300 HR9 ⊢
                have HR10 := Lib.hid hr9
                clear hr9 HR9
                go_wp2
                go_roundw
                case rel =>
                  refine ⟨c + 1, k', (u ++ E1) ++ (⟨#[45]⟩ ++ E2), r9, by omega, by omega, rfl, rfl, HR10, ?_, hbz.trans (hb9.mono hbz.size), hBz.below hb9 hBz.lt⟩
                  have h1 := HU.out
                  rw [clsT, if_neg (by omega), show (b : Int).toNat = b from rfl, HRB.out, HR10.out] at h1
                  show _ = _
                  rw [← h1]
                  unfold piece; rw [if_neg HQ1.out, if_pos hgt, HE1.out, HE2.out]; simp
                case measure =>
                  have := h300.out
                  simp only [intOf]
                  omega
              · have HGT := Lib.hid hgt
                go_wp2_with fail
                refine (HO1.out _).mono ?_
                rintro e w4 ⟨rfl, hb3⟩
                have hbz := hbt.trans (hb3.mono hbt.size)
                have hBz := hBt.below hb3 hBt.lt
                have y0 : w4.cell? ⟨w.heap.size, 0, none⟩ = some (.int .u64 e0) := hBz.cell 0
                have y1 : w4.cell? ⟨w.heap.size, 1, none⟩ = some (.int .u64 e1) := hBz.cell 1
                have y2 : w4.cell? ⟨w.heap.size, 2, none⟩ = some (.int .u64 e2) := hBz.cell 2
                have y3 : w4.cell? ⟨w.heap.size, 3, none⟩ = some (.int .u64 e3) := hBz.cell 3
                go_wp2_with fail
                refine (HF.out (c + 1) _ (by omega) (HT.out.below hbz hpos)).mono ?_
                rintro e w9 ⟨rfl, hb9⟩
                have h300 : Hid ((300 - fstB l (c + 1)).toNat % 301 < 300 - b) := by
                  show (300 - fstB l (c + 1)).toNat % 301 < 300 - b
                  rcases fstB_is l (c + 1) (by omega) with ⟨x, e, _, _, _, _⟩ | ⟨e, _⟩ <;> omega
                have HR9 : Hid (fstB l (c + 1) = fstB l (c + 1)) := rfl
                generalize hr9 : fstB l (c + 1) = r9 at h300 HR9 ⊢
                have HR10 := Lib.hid hr9
                clear hr9 HR9
                go_wp2
                go_roundw
                case rel =>
                  refine ⟨c + 1, k', u ++ E1, r9, by omega, by omega, rfl, rfl, HR10, ?_, hbz.trans (hb9.mono hbz.size), hBz.below hb9 hBz.lt⟩
                  have h1 := HU.out
                  rw [clsT, if_neg (by omega), show (b : Int).toNat = b from rfl, HRB.out, HR10.out] at h1
                  show _ = _
                  rw [← h1]
                  unfold piece; rw [if_neg HQ1.out, if_neg HGT.out, HE1.out]; simp
                case measure =>
                  have := h300.out
                  simp only [intOf]
                  omega
            · have HQ1 : Hid (c = b + 1) := by
                show c = b + 1
                simp at hq1
                omega
              go_wp2_with fail
              refine (HO1.out _).mono ?_
              rintro e w3 ⟨rfl, hb3⟩
              have hbz3 := hbt.trans (hb3.mono hbt.size)
              have hBz3 := hBt.below hb3 hBt.lt
              go_wp2_with fail
              refine (HO2.out _).mono ?_
              rintro e w4 ⟨rfl, hb4⟩
              have hbz := hbz3.trans (hb4.mono hbz3.size)
              have hBz := hBz3.below hb4 hBz3.lt
              have y0 : w4.cell? ⟨w.heap.size, 0, none⟩ = some (.int .u64 e0) := hBz.cell 0
              have y1 : w4.cell? ⟨w.heap.size, 1, none⟩ = some (.int .u64 e1) := hBz.cell 1
              have y2 : w4.cell? ⟨w.heap.size, 2, none⟩ = some (.int .u64 e2) := hBz.cell 2
              have y3 : w4.cell? ⟨w.heap.size, 3, none⟩ = some (.int .u64 e3) := hBz.cell 3
              go_wp2_with fail
              refine (HF.out (c + 1) _ (by omega) (HT.out.below hbz hpos)).mono ?_
              rintro e w9 ⟨rfl, hb9⟩
              have h300 : Hid ((300 - fstB l (c + 1)).toNat % 301 < 300 - b) := by
                show (300 - fstB l (c + 1)).toNat % 301 < 300 - b
                rcases fstB_is l (c + 1) (by omega) with ⟨x, e, _, _, _, _⟩ | ⟨e, _⟩ <;> omega
              have HR9 : Hid (fstB l (c + 1) = fstB l (c + 1)) := rfl
              generalize hr9 : fstB l (c + 1) = r9 at h300 HR9 ⊢
              have HR10 := Lib.hid hr9
              clear hr9 HR9
              go_wp2
              go_roundw
              case rel =>
                refine ⟨c + 1, k', (u ++ E1) ++ E2, r9, by omega, by omega, rfl, rfl, HR10, ?_, hbz.trans (hb9.mono hbz.size), hBz.below hb9 hBz.lt⟩
                have h1 := HU.out
                rw [clsT, if_neg (by omega), show (b : Int).toNat = b from rfl, HRB.out, HR10.out] at h1
                show _ = _
                rw [← h1]
                unfold piece; rw [if_pos HQ1.out, HE1.out, HE2.out]; simp
              case measure =>
                have := h300.out
                simp only [intOf]
                omega
          · have HRC2 : Hid (runB l (c + 1) = runB l b) := (runB_step hc hv).symm.trans HRC.out
            clear hv
            go_wp2_with fail
            refine (HH2.out _ (by omega)).mono ?_
            rintro e wt ⟨rfl, hbh⟩
            go_wp2
            go_roundw
            case rel => exact ⟨c + 1, by omega, by omega, by go_num, HRC2, hbw'.trans (hbh.mono hbw'.size), hB'.below hbh hB'.lt⟩
            case measure => simp [intOf]; omega
        · have HST : Hid (¬ (c < 255 ∧ hasN l (c + 1) = true)) := fun h => hc h.1
          have hci : ¬ (c : Int) < 255 := by omega
          have hbt := hbw'
          have hBt := hB'
          have HRB : Hid (runB l b = c) := by
            show runB l b = c
            rw [← HRC.out]
            exact runB_stop HST.out
          have hwb : IntKind.u8.wrap (b : Int) = (b : Int) := by rw [IntKind.wrap_u8]; omega
          have hwc : IntKind.u8.wrap (c : Int) = (c : Int) := by rw [IntKind.wrap_u8]; omega
          have he1 : (⟨(enc true b).toArray⟩ : ByteArray).size ≤ 4 := (show (enc true b).toArray.size ≤ 4 from by have := enc_len' true b; simpa using this)
          have he2 : (⟨(enc true c).toArray⟩ : ByteArray).size ≤ 4 := (show (enc true c).toArray.size ≤ 4 from by have := enc_len' true c; simpa using this)
          have HO1 : Hid (∀ W, Calls Tryd.prog 73 #[.int .u8 b, .string ⟨#[91, 93, 45, 94, 92]⟩] W fun e w' => e = .returned (.string ⟨(enc true b).toArray⟩) ∧ Below W.heap.size W w') := fun W => HO.out b W hb256
          have HO2 : Hid (∀ W, Calls Tryd.prog 73 #[.int .u8 c, .string ⟨#[91, 93, 45, 94, 92]⟩] W fun e w' => e = .returned (.string ⟨(enc true c).toArray⟩) ∧ Below W.heap.size W w') := fun W => HO.out c W (by omega)
          generalize hE1 : (⟨(enc true b).toArray⟩ : ByteArray) = E1 at he1 HO1
          have HE1 : Hid (enc true b = E1.data.toList) := by show _ = _; rw [← hE1]
          generalize hE2 : (⟨(enc true c).toArray⟩ : ByteArray) = E2 at he2 HO2
          have HE2 : Hid (enc true c = E2.data.toList) := by show _ = _; rw [← hE2]
          clear hE1 hE2
          cases hq1 : ((c : Int) == (b : Int) + 1)
          · have HQ1 : Hid (c ≠ b + 1) := by
              intro e
              rw [e] at hq1
              simp at hq1
            by_cases hgt : b < c
            · go_wp2_with fail
              refine (HO1.out _).mono ?_
              rintro e w3 ⟨rfl, hb3⟩
              have hbz3 := hbt.trans (hb3.mono hbt.size)
              have hBz3 := hBt.below hb3 hBt.lt
              go_wp2_with fail
              refine (HO2.out _).mono ?_
              rintro e w4 ⟨rfl, hb4⟩
              have hbz := hbz3.trans (hb4.mono hbz3.size)
              have hBz := hBz3.below hb4 hBz3.lt
              have y0 : w4.cell? ⟨w.heap.size, 0, none⟩ = some (.int .u64 e0) := hBz.cell 0
              have y1 : w4.cell? ⟨w.heap.size, 1, none⟩ = some (.int .u64 e1) := hBz.cell 1
              have y2 : w4.cell? ⟨w.heap.size, 2, none⟩ = some (.int .u64 e2) := hBz.cell 2
              have y3 : w4.cell? ⟨w.heap.size, 3, none⟩ = some (.int .u64 e3) := hBz.cell 3
              go_wp2_with fail
              refine (HF.out (c + 1) _ (by omega) (HT.out.below hbz hpos)).mono ?_
              rintro e w9 ⟨rfl, hb9⟩
              have h300 : Hid ((300 - fstB l (c + 1)).toNat % 301 < 300 - b) := by
                show (300 - fstB l (c + 1)).toNat % 301 < 300 - b
                rcases fstB_is l (c + 1) (by omega) with ⟨x, e, _, _, _, _⟩ | ⟨e, _⟩ <;> omega
              have HR9 : Hid (fstB l (c + 1) = fstB l (c + 1)) := rfl
              generalize hr9 : fstB l (c + 1) = r9 at h300 HR9 ⊢
              have HR10 := Lib.hid hr9
              clear hr9 HR9
              go_wp2
              go_roundw
              case rel =>
                refine ⟨c + 1, k', (u ++ E1) ++ (⟨#[45]⟩ ++ E2), r9, by omega, by omega, rfl, rfl, HR10, ?_, hbz.trans (hb9.mono hbz.size), hBz.below hb9 hBz.lt⟩
                have h1 := HU.out
                rw [clsT, if_neg (by omega), show (b : Int).toNat = b from rfl, HRB.out, HR10.out] at h1
                show _ = _
                rw [← h1]
                unfold piece; rw [if_neg HQ1.out, if_pos hgt, HE1.out, HE2.out]; simp
              case measure =>
                have := h300.out
                simp only [intOf]
                omega
            · have HGT := Lib.hid hgt
              go_wp2_with fail
              refine (HO1.out _).mono ?_
              rintro e w4 ⟨rfl, hb3⟩
              have hbz := hbt.trans (hb3.mono hbt.size)
              have hBz := hBt.below hb3 hBt.lt
              have y0 : w4.cell? ⟨w.heap.size, 0, none⟩ = some (.int .u64 e0) := hBz.cell 0
              have y1 : w4.cell? ⟨w.heap.size, 1, none⟩ = some (.int .u64 e1) := hBz.cell 1
              have y2 : w4.cell? ⟨w.heap.size, 2, none⟩ = some (.int .u64 e2) := hBz.cell 2
              have y3 : w4.cell? ⟨w.heap.size, 3, none⟩ = some (.int .u64 e3) := hBz.cell 3
              go_wp2_with fail
              refine (HF.out (c + 1) _ (by omega) (HT.out.below hbz hpos)).mono ?_
              rintro e w9 ⟨rfl, hb9⟩
              have h300 : Hid ((300 - fstB l (c + 1)).toNat % 301 < 300 - b) := by
                show (300 - fstB l (c + 1)).toNat % 301 < 300 - b
                rcases fstB_is l (c + 1) (by omega) with ⟨x, e, _, _, _, _⟩ | ⟨e, _⟩ <;> omega
              have HR9 : Hid (fstB l (c + 1) = fstB l (c + 1)) := rfl
              generalize hr9 : fstB l (c + 1) = r9 at h300 HR9 ⊢
              have HR10 := Lib.hid hr9
              clear hr9 HR9
              go_wp2
              go_roundw
              case rel =>
                refine ⟨c + 1, k', u ++ E1, r9, by omega, by omega, rfl, rfl, HR10, ?_, hbz.trans (hb9.mono hbz.size), hBz.below hb9 hBz.lt⟩
                have h1 := HU.out
                rw [clsT, if_neg (by omega), show (b : Int).toNat = b from rfl, HRB.out, HR10.out] at h1
                show _ = _
                rw [← h1]
                unfold piece; rw [if_neg HQ1.out, if_neg HGT.out, HE1.out]; simp
              case measure =>
                have := h300.out
                simp only [intOf]
                omega
          · have HQ1 : Hid (c = b + 1) := by
              show c = b + 1
              simp at hq1
              omega
            go_wp2_with fail
            refine (HO1.out _).mono ?_
            rintro e w3 ⟨rfl, hb3⟩
            have hbz3 := hbt.trans (hb3.mono hbt.size)
            have hBz3 := hBt.below hb3 hBt.lt
            go_wp2_with fail
            refine (HO2.out _).mono ?_
            rintro e w4 ⟨rfl, hb4⟩
            have hbz := hbz3.trans (hb4.mono hbz3.size)
            have hBz := hBz3.below hb4 hBz3.lt
            have y0 : w4.cell? ⟨w.heap.size, 0, none⟩ = some (.int .u64 e0) := hBz.cell 0
            have y1 : w4.cell? ⟨w.heap.size, 1, none⟩ = some (.int .u64 e1) := hBz.cell 1
            have y2 : w4.cell? ⟨w.heap.size, 2, none⟩ = some (.int .u64 e2) := hBz.cell 2
            have y3 : w4.cell? ⟨w.heap.size, 3, none⟩ = some (.int .u64 e3) := hBz.cell 3
            go_wp2_with fail
            refine (HF.out (c + 1) _ (by omega) (HT.out.below hbz hpos)).mono ?_
            rintro e w9 ⟨rfl, hb9⟩
            have h300 : Hid ((300 - fstB l (c + 1)).toNat % 301 < 300 - b) := by
              show (300 - fstB l (c + 1)).toNat % 301 < 300 - b
              rcases fstB_is l (c + 1) (by omega) with ⟨x, e, _, _, _, _⟩ | ⟨e, _⟩ <;> omega
            have HR9 : Hid (fstB l (c + 1) = fstB l (c + 1)) := rfl
            generalize hr9 : fstB l (c + 1) = r9 at h300 HR9 ⊢
            have HR10 := Lib.hid hr9
            clear hr9 HR9
            go_wp2
            go_roundw
            case rel =>
              refine ⟨c + 1, k', (u ++ E1) ++ E2, r9, by omega, by omega, rfl, rfl, HR10, ?_, hbz.trans (hb9.mono hbz.size), hBz.below hb9 hBz.lt⟩
              have h1 := HU.out
              rw [clsT, if_neg (by omega), show (b : Int).toNat = b from rfl, HRB.out, HR10.out] at h1
              show _ = _
              rw [← h1]
              unfold piece; rw [if_pos HQ1.out, HE1.out, HE2.out]; simp
            case measure =>
              have := h300.out
              simp only [intOf]
              omega
    · have hrn : r < 0 := by omega
      go_wp2
      go_ret
      refine ⟨⟨_, rfl, ?_⟩, hbw⟩
      have h1 := HU.out
      obtain ⟨k', rfl⟩ : ∃ k', k = k' + 1 := ⟨k - 1, by omega⟩
      rw [clsT, if_pos hrn, List.append_nil] at h1
      rw [app_data', h1, HALL.out]
end Go.Proofs.YtndhbdbfjkmloaaDoor
