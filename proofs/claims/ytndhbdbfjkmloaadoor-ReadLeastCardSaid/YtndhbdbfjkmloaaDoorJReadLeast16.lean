/- What quote.Class answers. chaffref.Same and SameGrammar: are two expressions, two grammars the same? The contract of strings.Join, laid by the kit's shelf at this seat (wip/shelf.py writes this text anew for another seat). show.level, show.within, show.text. -/
import Derived.Test.YtndhbdbfjkmloaaDoorJReadLeast3
import Derived.Test.YtndhbdbfjkmloaaDoorJReadLeast15
import Derived.Test.YtndhbdbfjkmloaaDoorJReadLeast9
import Derived.Test.YtndhbdbfjkmloaaDoorJReadLeast1
import Derived.Shelf.Strings.Builder1
import Derived.Shelf.Strings.Builder2
import Derived.Shelf.Strings.OnBuilder
import Derived.Shelf.Strings.BuilderF
import Derived.Shelf.Strings.BuilderK
import Derived.Shelf.Strings.Builder2Cap
import Derived.Test.YtndhbdbfjkmloaaDoorProg
namespace Go.Proofs.YtndhbdbfjkmloaaDoor
open Go.RowKit

theorem app_data' (a b : ByteArray) : (a ++ b).data.toList = a.data.toList ++ b.data.toList := by simp
theorem enc_len' (cls : Bool) (n : Nat) : (enc cls n).length ≤ 4 := by
  unfold enc
  split
  · simp
  · split
    · simp
    · split
      · simp
      · split <;> simp
theorem clsT_len (l : List Nat) : ∀ k r, (clsT l k r).length ≤ 9 * k
  | 0, _ => by simp [clsT]
  | k + 1, r => by
    have ih := clsT_len l k
    rw [clsT]
    split
    · simp
    · rw [List.length_append]
      have h := ih (fstB l (runB l r.toNat + 1))
      have h1 := enc_len' true r.toNat
      have h2 := enc_len' true (runB l r.toNat)
      have h3 : (piece r.toNat (runB l r.toNat)).length ≤ 9 := by
        unfold piece
        rw [List.length_append]
        split
        · omega
        · split
          · rw [List.length_cons]; omega
          · simp; omega
      omega

set_option maxRecDepth 100000 in
set_option maxHeartbeats 2000000 in
theorem class_any (l : List Nat) (hl : Words l) (w : World) (hT : TabAt w) :
    Calls Tryd.prog 57 #[vals l] w fun e w' => (∃ u : ByteArray, e = .returned (.string u) ∧ u.data.toList = clsAll l) ∧ Below w.heap.size w w' := by
  have hpos := hT.pos
  have HT := Lib.hid hT
  have HF : Hid (∀ (f : Nat) (W : World), f ≤ 256 → TabAt W → Calls Tryd.prog 85 #[vals l, .int .i64 f] W fun e w' => e = .returned (.int .i64 (fstB l f)) ∧ Below W.heap.size W w') := fun f W hf hT => (first_any l hl f hf W hT).mono fun e w' ⟨r, h1, h2, h3⟩ => ⟨by rw [h1, h2.uniq (fstB_is l f hf)], h3⟩
  have HH : Hid (∀ (b : Nat) (W : World), b < 256 → Calls Tryd.prog 86 #[vals l, .int .u8 b] W fun e w' => e = .returned (.bool (hasN l b)) ∧ Below W.heap.size W w') := fun b W hb => has_any l hl b hb W
  have HO : Hid (∀ (n : Nat) (W : World), n < 256 → Calls Tryd.prog 73 #[.int .u8 n, .string ⟨#[91, 93, 45, 94, 92]⟩] W fun e w' => e = .returned (.string ⟨(enc true n).toArray⟩) ∧ Below W.heap.size W w') := fun n W hn => one_any true n hn W
  clear hl hT
  unfold vals at HF HH ⊢
  generalize l.getD 0 0 = e0 at HF HH ⊢
  generalize l.getD 1 0 = e1 at HF HH ⊢
  generalize l.getD 2 0 = e2 at HF HH ⊢
  generalize l.getD 3 0 = e3 at HF HH ⊢
  go_enter Tryd.func57, Tryd.ntmps57
  go_wp2_with fail
  refine (HF.out 0 _ (by omega) (HT.out.below ((Below.refl _ _).alloc (Nat.le_refl _) _) hpos)).mono ?_
  rintro e w1 ⟨rfl, hb1⟩
  have hB : Blk w1 w.heap.size 24 #[.int .u64 e0, .int .u64 e1, .int .u64 e2, .int .u64 e3] := (blk_at rfl).below hb1 (by simp)
  have hbw0 : Below w.heap.size w w1 := ((Below.refl _ _).alloc (Nat.le_refl _) _).trans (hb1.mono (by simp))
  clear hb1
  have htot := clsT_len l 257 (fstB l 0)
  have HALL : Hid (clsAll l = (91 :: clsT l 257 (fstB l 0)) ++ [93]) := rfl
  have HR0 := Lib.hid (fstB_is l 0 (by omega))
  generalize hC : clsT l 257 (fstB l 0) = C at htot HALL
  have HC := Lib.hid hC
  clear hC
  generalize hr0 : fstB l 0 = r0 at HC HR0
  have HR00 := Lib.hid hr0
  clear hr0
  go_wp2_with fail
  go_loopw [3, 4] (fun o b wr => ∃ (f k : Nat) (u : ByteArray) (r : Int), f ≤ 256 ∧ 257 ≤ k + f ∧ b = .int .i64 r ∧ o = .string u ∧ Hid (fstB l f = r) ∧ Hid (u.data.toList ++ clsT l k r = 91 :: C) ∧ Below w.heap.size w wr ∧ Blk wr w.heap.size 24 #[.int .u64 e0, .int .u64 e1, .int .u64 e2, .int .u64 e3]) (fun _ b _ => (300 - intOf b).toNat % 301)
  case atStart => exact ⟨0, 257, ⟨#[91]⟩, r0, by omega, by omega, rfl, rfl, HR00, by show _ = _; rw [HC.out]; rfl, hbw0, hB⟩
  case round =>
    obtain ⟨f, k, u, r, hf, hk, rfl, rfl, HFR, HU, hbw, hB⟩ := hrel
    have hus : u.size ≤ 2400 := by
      have h1 := congrArg List.length HU.out
      have h2 := size_list u
      rw [List.length_append, List.length_cons] at h1
      omega
    have z0 : wr.cell? ⟨w.heap.size, 0, none⟩ = some (.int .u64 e0) := hB.cell 0
    have z1 : wr.cell? ⟨w.heap.size, 1, none⟩ = some (.int .u64 e1) := hB.cell 1
    have z2 : wr.cell? ⟨w.heap.size, 2, none⟩ = some (.int .u64 e2) := hB.cell 2
    have z3 : wr.cell? ⟨w.heap.size, 3, none⟩ = some (.int .u64 e3) := hB.cell 3
    by_cases hr0 : 0 ≤ r
    · obtain ⟨b, rfl⟩ := Int.eq_ofNat_of_zero_le hr0
      have hFI : FirstIs l f (b : Int) := by rw [← HFR.out]; exact fstB_is l f hf
      obtain ⟨hfb, hb256, _, _⟩ := hFI.cnt
      have HFI := Lib.hid hFI
      clear hFI
      obtain ⟨k', rfl⟩ : ∃ k', k = k' + 1 := ⟨k - 1, by omega⟩
      go_wp2_with fail
      go_loopw [4] (fun b' wr' => ∃ c : Nat, b ≤ c ∧ c ≤ 255 ∧ b' = .int .i64 c ∧ Hid (runB l c = runB l b) ∧ Below w.heap.size w wr' ∧ Blk wr' w.heap.size 24 #[.int .u64 e0, .int .u64 e1, .int .u64 e2, .int .u64 e3]) (fun b' _ => 255 - (intOf b').toNat)
      case atStart => exact ⟨b, by omega, by omega, rfl, rfl, hbw, hB⟩
      case round =>
        obtain ⟨c, hbc, hc255, rfl, HRC, hbw', hB'⟩ := hrel
        have z0 : wr.cell? ⟨w.heap.size, 0, none⟩ = some (.int .u64 e0) := hB'.cell 0
        have z1 : wr.cell? ⟨w.heap.size, 1, none⟩ = some (.int .u64 e1) := hB'.cell 1
        have z2 : wr.cell? ⟨w.heap.size, 2, none⟩ = some (.int .u64 e2) := hB'.cell 2
        have z3 : wr.cell? ⟨w.heap.size, 3, none⟩ = some (.int .u64 e3) := hB'.cell 3
        by_cases hc : c < 255
        · have hwc1 : IntKind.u8.wrap ((c : Int) + 1) = ((c + 1 : Nat) : Int) := by rw [IntKind.wrap_u8]; omega
          have hci : (c : Int) < 255 := by omega
          have HH1 := HH.out (c + 1)
          cases hv : hasN l (c + 1)
          all_goals rw [hv] at HH1
          all_goals have HH2 := Lib.hid HH1
          all_goals clear HH1
          · have HST : Hid (¬ (c < 255 ∧ hasN l (c + 1) = true)) := by
              rintro ⟨_, h⟩
              rw [hv] at h
              cases h
            clear hv
            go_wp2_with fail
            refine (HH2.out _ (by omega)).mono ?_
            rintro e wt ⟨rfl, hbh⟩
            have hbt := hbw'.trans (hbh.mono hbw'.size)
            have hBt := hB'.below hbh hB'.lt
            clear hbh
            have HRB : Hid (runB l b = c) := by
              show runB l b = c
              rw [← HRC.out]
              exact runB_stop HST.out
            have hwb : IntKind.u8.wrap (b : Int) = (b : Int) := by rw [IntKind.wrap_u8]; omega
            have hwc : IntKind.u8.wrap (c : Int) = (c : Int) := by rw [IntKind.wrap_u8]; omega
            have he1 : (⟨(enc true b).toArray⟩ : ByteArray).size ≤ 4 := (show (enc true b).toArray.size ≤ 4 from by have := enc_len' true b; simpa using this)
            have he2 : (⟨(enc true c).toArray⟩ : ByteArray).size ≤ 4 := (show (enc true c).toArray.size ≤ 4 from by have := enc_len' true c; simpa using this)
            have HO1 : Hid (∀ W, Calls Tryd.prog 73 #[.int .u8 b, .string ⟨#[91, 93, 45, 94, 92]⟩] W fun e w' => e = .returned (.string ⟨(enc true b).toArray⟩) ∧ Below W.heap.size W w') := fun W => HO.out b W hb256
            have HO2 : Hid (∀ W, Calls Tryd.prog 73 #[.int .u8 c, .string ⟨#[91, 93, 45, 94, 92]⟩] W fun e w' => e = .returned (.string ⟨(enc true c).toArray⟩) ∧ Below W.heap.size W w') := fun W => HO.out c W (by omega)
            generalize hE1 : (⟨(enc true b).toArray⟩ : ByteArray) = E1 at he1 HO1
            have HE1 : Hid (enc true b = E1.data.toList) := by show _ = _; rw [← hE1]
            generalize hE2 : (⟨(enc true c).toArray⟩ : ByteArray) = E2 at he2 HO2
            have HE2 : Hid (enc true c = E2.data.toList) := by show _ = _; rw [← hE2]
            clear hE1 hE2
            cases hq1 : ((c : Int) == (b : Int) + 1)
            · have HQ1 : Hid (c ≠ b + 1) := by
                intro e
                rw [e] at hq1
                simp at hq1
              by_cases hgt : b < c
              · go_wp2_with fail
                refine (HO1.out _).mono ?_
                rintro e w3 ⟨rfl, hb3⟩
                have hbz3 := hbt.trans (hb3.mono hbt.size)
                have hBz3 := hBt.below hb3 hBt.lt
                go_wp2_with fail
                refine (HO2.out _).mono ?_
                rintro e w4 ⟨rfl, hb4⟩
                have hbz := hbz3.trans (hb4.mono hbz3.size)
                have hBz := hBz3.below hb4 hBz3.lt
                have y0 : w4.cell? ⟨w.heap.size, 0, none⟩ = some (.int .u64 e0) := hBz.cell 0
                have y1 : w4.cell? ⟨w.heap.size, 1, none⟩ = some (.int .u64 e1) := hBz.cell 1
                have y2 : w4.cell? ⟨w.heap.size, 2, none⟩ = some (.int .u64 e2) := hBz.cell 2
                have y3 : w4.cell? ⟨w.heap.size, 3, none⟩ = some (.int .u64 e3) := hBz.cell 3
                go_wp2_with fail
                refine (HF.out (c + 1) _ (by omega) (HT.out.below hbz hpos)).mono ?_
                rintro e w9 ⟨rfl, hb9⟩
                have h300 : Hid ((300 - fstB l (c + 1)).toNat % 301 < 300 - b) := by
                  show (300 - fstB l (c + 1)).toNat % 301 < 300 - b
                  rcases fstB_is l (c + 1) (by omega) with ⟨x, e, _, _, _, _⟩ | ⟨e, _⟩ <;> omega
                have HR9 : Hid (fstB l (c + 1) = fstB l (c + 1)) := rfl
                generalize hr9 : fstB l (c + 1) = r9 at h300 HR9 ⊢
                have HR10 := Lib.hid hr9
                clear hr9 HR9
                go_wp2
                go_roundw
                case rel =>
                  refine ⟨c + 1, k', (u ++ E1) ++ (⟨#[45]⟩ ++ E2), r9, by omega, by omega, rfl, rfl, HR10, ?_, hbz.trans (hb9.mono hbz.size), hBz.below hb9 hBz.lt⟩
                  have h1 := HU.out
                  rw [clsT, if_neg (by omega), show (b : Int).toNat = b from rfl, HRB.out, HR10.out] at h1
                  show _ = _
                  rw [← h1]
                  unfold piece; rw [if_neg HQ1.out, if_pos hgt, HE1.out, HE2.out]; simp
                case measure =>
                  have := h300.out
                  simp only [intOf]
                  omega
              · have HGT := Lib.hid hgt
                go_wp2_with fail
                refine (HO1.out _).mono ?_
                rintro e w4 ⟨rfl, hb3⟩
                have hbz := hbt.trans (hb3.mono hbt.size)
                have hBz := hBt.below hb3 hBt.lt
                have y0 : w4.cell? ⟨w.heap.size, 0, none⟩ = some (.int .u64 e0) := hBz.cell 0
                have y1 : w4.cell? ⟨w.heap.size, 1, none⟩ = some (.int .u64 e1) := hBz.cell 1
                have y2 : w4.cell? ⟨w.heap.size, 2, none⟩ = some (.int .u64 e2) := hBz.cell 2
                have y3 : w4.cell? ⟨w.heap.size, 3, none⟩ = some (.int .u64 e3) := hBz.cell 3
                go_wp2_with fail
                refine (HF.out (c + 1) _ (by omega) (HT.out.below hbz hpos)).mono ?_
                rintro e w9 ⟨rfl, hb9⟩
                have h300 : Hid ((300 - fstB l (c + 1)).toNat % 301 < 300 - b) := by
                  show (300 - fstB l (c + 1)).toNat % 301 < 300 - b
                  rcases fstB_is l (c + 1) (by omega) with ⟨x, e, _, _, _, _⟩ | ⟨e, _⟩ <;> omega
                have HR9 : Hid (fstB l (c + 1) = fstB l (c + 1)) := rfl
                generalize hr9 : fstB l (c + 1) = r9 at h300 HR9 ⊢
                have HR10 := Lib.hid hr9
                clear hr9 HR9
                go_wp2
                go_roundw
                case rel =>
                  refine ⟨c + 1, k', u ++ E1, r9, by omega, by omega, rfl, rfl, HR10, ?_, hbz.trans (hb9.mono hbz.size), hBz.below hb9 hBz.lt⟩
                  have h1 := HU.out
                  rw [clsT, if_neg (by omega), show (b : Int).toNat = b from rfl, HRB.out, HR10.out] at h1
                  show _ = _
                  rw [← h1]
                  unfold piece; rw [if_neg HQ1.out, if_neg HGT.out, HE1.out]; simp
                case measure =>
                  have := h300.out
                  simp only [intOf]
                  omega
            · have HQ1 : Hid (c = b + 1) := by
                show c = b + 1
                simp at hq1
                omega
              go_wp2_with fail
              refine (HO1.out _).mono ?_
              rintro e w3 ⟨rfl, hb3⟩
              have hbz3 := hbt.trans (hb3.mono hbt.size)
              have hBz3 := hBt.below hb3 hBt.lt
              go_wp2_with fail
              refine (HO2.out _).mono ?_
              rintro e w4 ⟨rfl, hb4⟩
              have hbz := hbz3.trans (hb4.mono hbz3.size)
              have hBz := hBz3.below hb4 hBz3.lt
              have y0 : w4.cell? ⟨w.heap.size, 0, none⟩ = some (.int .u64 e0) := hBz.cell 0
              have y1 : w4.cell? ⟨w.heap.size, 1, none⟩ = some (.int .u64 e1) := hBz.cell 1
              have y2 : w4.cell? ⟨w.heap.size, 2, none⟩ = some (.int .u64 e2) := hBz.cell 2
              have y3 : w4.cell? ⟨w.heap.size, 3, none⟩ = some (.int .u64 e3) := hBz.cell 3
              go_wp2_with fail
              refine (HF.out (c + 1) _ (by omega) (HT.out.below hbz hpos)).mono ?_
              rintro e w9 ⟨rfl, hb9⟩
              have h300 : Hid ((300 - fstB l (c + 1)).toNat % 301 < 300 - b) := by
                show (300 - fstB l (c + 1)).toNat % 301 < 300 - b
                rcases fstB_is l (c + 1) (by omega) with ⟨x, e, _, _, _, _⟩ | ⟨e, _⟩ <;> omega
              have HR9 : Hid (fstB l (c + 1) = fstB l (c + 1)) := rfl
              generalize hr9 : fstB l (c + 1) = r9 at h300 HR9 ⊢
              have HR10 := Lib.hid hr9
              clear hr9 HR9
              go_wp2
              go_roundw
              case rel =>
                refine ⟨c + 1, k', (u ++ E1) ++ E2, r9, by omega, by omega, rfl, rfl, HR10, ?_, hbz.trans (hb9.mono hbz.size), hBz.below hb9 hBz.lt⟩
                have h1 := HU.out
                rw [clsT, if_neg (by omega), show (b : Int).toNat = b from rfl, HRB.out, HR10.out] at h1
                show _ = _
                rw [← h1]
                unfold piece; rw [if_pos HQ1.out, HE1.out, HE2.out]; simp
              case measure =>
                have := h300.out
                simp only [intOf]
                omega
          · have HRC2 : Hid (runB l (c + 1) = runB l b) := (runB_step hc hv).symm.trans HRC.out
            clear hv
            go_wp2_with fail
            refine (HH2.out _ (by omega)).mono ?_
            rintro e wt ⟨rfl, hbh⟩
            go_wp2
            go_roundw
            case rel => exact ⟨c + 1, by omega, by omega, by go_num, HRC2, hbw'.trans (hbh.mono hbw'.size), hB'.below hbh hB'.lt⟩
            case measure => simp [intOf]; omega
        · have HST : Hid (¬ (c < 255 ∧ hasN l (c + 1) = true)) := fun h => hc h.1
          have hci : ¬ (c : Int) < 255 := by omega
          have hbt := hbw'
          have hBt := hB'
          have HRB : Hid (runB l b = c) := by
            show runB l b = c
            rw [← HRC.out]
            exact runB_stop HST.out
          have hwb : IntKind.u8.wrap (b : Int) = (b : Int) := by rw [IntKind.wrap_u8]; omega
          have hwc : IntKind.u8.wrap (c : Int) = (c : Int) := by rw [IntKind.wrap_u8]; omega
          have he1 : (⟨(enc true b).toArray⟩ : ByteArray).size ≤ 4 := (show (enc true b).toArray.size ≤ 4 from by have := enc_len' true b; simpa using this)
          have he2 : (⟨(enc true c).toArray⟩ : ByteArray).size ≤ 4 := (show (enc true c).toArray.size ≤ 4 from by have := enc_len' true c; simpa using this)
          have HO1 : Hid (∀ W, Calls Tryd.prog 73 #[.int .u8 b, .string ⟨#[91, 93, 45, 94, 92]⟩] W fun e w' => e = .returned (.string ⟨(enc true b).toArray⟩) ∧ Below W.heap.size W w') := fun W => HO.out b W hb256
          have HO2 : Hid (∀ W, Calls Tryd.prog 73 #[.int .u8 c, .string ⟨#[91, 93, 45, 94, 92]⟩] W fun e w' => e = .returned (.string ⟨(enc true c).toArray⟩) ∧ Below W.heap.size W w') := fun W => HO.out c W (by omega)
          generalize hE1 : (⟨(enc true b).toArray⟩ : ByteArray) = E1 at he1 HO1
          have HE1 : Hid (enc true b = E1.data.toList) := by show _ = _; rw [← hE1]
          generalize hE2 : (⟨(enc true c).toArray⟩ : ByteArray) = E2 at he2 HO2
          have HE2 : Hid (enc true c = E2.data.toList) := by show _ = _; rw [← hE2]
          clear hE1 hE2
          cases hq1 : ((c : Int) == (b : Int) + 1)
          · have HQ1 : Hid (c ≠ b + 1) := by
              intro e
              rw [e] at hq1
              simp at hq1
            by_cases hgt : b < c
            · go_wp2_with fail
              refine (HO1.out _).mono ?_
              rintro e w3 ⟨rfl, hb3⟩
              have hbz3 := hbt.trans (hb3.mono hbt.size)
              have hBz3 := hBt.below hb3 hBt.lt
              go_wp2_with fail
              refine (HO2.out _).mono ?_
              rintro e w4 ⟨rfl, hb4⟩
              have hbz := hbz3.trans (hb4.mono hbz3.size)
              have hBz := hBz3.below hb4 hBz3.lt
              have y0 : w4.cell? ⟨w.heap.size, 0, none⟩ = some (.int .u64 e0) := hBz.cell 0
              have y1 : w4.cell? ⟨w.heap.size, 1, none⟩ = some (.int .u64 e1) := hBz.cell 1
              have y2 : w4.cell? ⟨w.heap.size, 2, none⟩ = some (.int .u64 e2) := hBz.cell 2
              have y3 : w4.cell? ⟨w.heap.size, 3, none⟩ = some (.int .u64 e3) := hBz.cell 3
              go_wp2_with fail
              refine (HF.out (c + 1) _ (by omega) (HT.out.below hbz hpos)).mono ?_
              rintro e w9 ⟨rfl, hb9⟩
              have h300 : Hid ((300 - fstB l (c + 1)).toNat % 301 < 300 - b) := by
                show (300 - fstB l (c + 1)).toNat % 301 < 300 - b
                rcases fstB_is l (c + 1) (by omega) with ⟨x, e, _, _, _, _⟩ | ⟨e, _⟩ <;> omega
              have HR9 : Hid (fstB l (c + 1) = fstB l (c + 1)) := rfl
              generalize hr9 : fstB l (c + 1) = r9 at h300 HR9 ⊢
              have HR10 := Lib.hid hr9
              clear hr9 HR9
              go_wp2
              go_roundw
              case rel =>
                refine ⟨c + 1, k', (u ++ E1) ++ (⟨#[45]⟩ ++ E2), r9, by omega, by omega, rfl, rfl, HR10, ?_, hbz.trans (hb9.mono hbz.size), hBz.below hb9 hBz.lt⟩
                have h1 := HU.out
                rw [clsT, if_neg (by omega), show (b : Int).toNat = b from rfl, HRB.out, HR10.out] at h1
                show _ = _
                rw [← h1]
                unfold piece; rw [if_neg HQ1.out, if_pos hgt, HE1.out, HE2.out]; simp
              case measure =>
                have := h300.out
                simp only [intOf]
                omega
            · have HGT := Lib.hid hgt
              go_wp2_with fail
              refine (HO1.out _).mono ?_
              rintro e w4 ⟨rfl, hb3⟩
              have hbz := hbt.trans (hb3.mono hbt.size)
              have hBz := hBt.below hb3 hBt.lt
              have y0 : w4.cell? ⟨w.heap.size, 0, none⟩ = some (.int .u64 e0) := hBz.cell 0
              have y1 : w4.cell? ⟨w.heap.size, 1, none⟩ = some (.int .u64 e1) := hBz.cell 1
              have y2 : w4.cell? ⟨w.heap.size, 2, none⟩ = some (.int .u64 e2) := hBz.cell 2
              have y3 : w4.cell? ⟨w.heap.size, 3, none⟩ = some (.int .u64 e3) := hBz.cell 3
              go_wp2_with fail
              refine (HF.out (c + 1) _ (by omega) (HT.out.below hbz hpos)).mono ?_
              rintro e w9 ⟨rfl, hb9⟩
              have h300 : Hid ((300 - fstB l (c + 1)).toNat % 301 < 300 - b) := by
                show (300 - fstB l (c + 1)).toNat % 301 < 300 - b
                rcases fstB_is l (c + 1) (by omega) with ⟨x, e, _, _, _, _⟩ | ⟨e, _⟩ <;> omega
              have HR9 : Hid (fstB l (c + 1) = fstB l (c + 1)) := rfl
              generalize hr9 : fstB l (c + 1) = r9 at h300 HR9 ⊢
              have HR10 := Lib.hid hr9
              clear hr9 HR9
              go_wp2
              go_roundw
              case rel =>
                refine ⟨c + 1, k', u ++ E1, r9, by omega, by omega, rfl, rfl, HR10, ?_, hbz.trans (hb9.mono hbz.size), hBz.below hb9 hBz.lt⟩
                have h1 := HU.out
                rw [clsT, if_neg (by omega), show (b : Int).toNat = b from rfl, HRB.out, HR10.out] at h1
                show _ = _
                rw [← h1]
                unfold piece; rw [if_neg HQ1.out, if_neg HGT.out, HE1.out]; simp
              case measure =>
                have := h300.out
                simp only [intOf]
                omega
          · have HQ1 : Hid (c = b + 1) := by
              show c = b + 1
              simp at hq1
              omega
            go_wp2_with fail
            refine (HO1.out _).mono ?_
            rintro e w3 ⟨rfl, hb3⟩
            have hbz3 := hbt.trans (hb3.mono hbt.size)
            have hBz3 := hBt.below hb3 hBt.lt
            go_wp2_with fail
            refine (HO2.out _).mono ?_
            rintro e w4 ⟨rfl, hb4⟩
            have hbz := hbz3.trans (hb4.mono hbz3.size)
            have hBz := hBz3.below hb4 hBz3.lt
            have y0 : w4.cell? ⟨w.heap.size, 0, none⟩ = some (.int .u64 e0) := hBz.cell 0
            have y1 : w4.cell? ⟨w.heap.size, 1, none⟩ = some (.int .u64 e1) := hBz.cell 1
            have y2 : w4.cell? ⟨w.heap.size, 2, none⟩ = some (.int .u64 e2) := hBz.cell 2
            have y3 : w4.cell? ⟨w.heap.size, 3, none⟩ = some (.int .u64 e3) := hBz.cell 3
            go_wp2_with fail
            refine (HF.out (c + 1) _ (by omega) (HT.out.below hbz hpos)).mono ?_
            rintro e w9 ⟨rfl, hb9⟩
            have h300 : Hid ((300 - fstB l (c + 1)).toNat % 301 < 300 - b) := by
              show (300 - fstB l (c + 1)).toNat % 301 < 300 - b
              rcases fstB_is l (c + 1) (by omega) with ⟨x, e, _, _, _, _⟩ | ⟨e, _⟩ <;> omega
            have HR9 : Hid (fstB l (c + 1) = fstB l (c + 1)) := rfl
            generalize hr9 : fstB l (c + 1) = r9 at h300 HR9 ⊢
            have HR10 := Lib.hid hr9
            clear hr9 HR9
            go_wp2
            go_roundw
            case rel =>
              refine ⟨c + 1, k', (u ++ E1) ++ E2, r9, by omega, by omega, rfl, rfl, HR10, ?_, hbz.trans (hb9.mono hbz.size), hBz.below hb9 hBz.lt⟩
              have h1 := HU.out
              rw [clsT, if_neg (by omega), show (b : Int).toNat = b from rfl, HRB.out, HR10.out] at h1
              show _ = _
              rw [← h1]
              unfold piece; rw [if_pos HQ1.out, HE1.out, HE2.out]; simp
            case measure =>
              have := h300.out
              simp only [intOf]
              omega
    · have hrn : r < 0 := by omega
      go_wp2
      go_ret
      refine ⟨⟨_, rfl, ?_⟩, hbw⟩
      have h1 := HU.out
      obtain ⟨k', rfl⟩ : ∃ k', k = k' + 1 := ⟨k - 1, by omega⟩
      rw [clsT, if_pos hrn, List.append_nil] at h1
      rw [app_data', h1, HALL.out]
end Go.Proofs.YtndhbdbfjkmloaaDoor
namespace Go.Proofs.YtndhbdbfjkmloaaDoor
open Go.RowKit

/-- is it so? -/
noncomputable def isB (p : Prop) : Bool := @decide p (Classical.propDecidable p)
theorem isB_iff {p : Prop} : isB p = true ↔ p := by unfold isB; exact @decide_eq_true_iff p (Classical.propDecidable p)
theorem isB_yes {p : Prop} (h : p) : isB p = true := isB_iff.2 h
theorem isB_no {p : Prop} (h : ¬ p) : isB p = false := by
  cases hb : isB p with
  | false => rfl
  | true => exact absurd (isB_iff.1 hb) h
theorem bytes_eq {u v : ByteArray} (h : u.data.toList = v.data.toList) : u = v := by
  obtain ⟨⟨u⟩⟩ := u
  obtain ⟨⟨v⟩⟩ := v
  simp at h
  rw [h]
def SameX (e : Ex) : Prop := ∀ (f : Ex) (cs cs' : List Value) (w : World), ExIs w w.heap.size e cs → ExIs w w.heap.size f cs' → Calls Tryd.prog 13 #[.agg cs.toArray, .agg cs'.toArray] w fun r w' => r = .returned (.bool (isB (e = f))) ∧ Below w.heap.size w w'

set_option maxRecDepth 100000 in
theorem equalX_any {k a b c d k0 a0 b0 c0 d0 : Int} {t t0 : ByteArray} {ks ks' : List Ex} (ih : ∀ e ∈ ks, SameX e) {A A' : Option Addr} {cp cp' : Nat} {w : World} (h : ExIs w w.heap.size (.mk k a b c d t ks) (exCells k a b c d t A ks.length cp)) (h' : ExIs w w.heap.size (.mk k0 a0 b0 c0 d0 t0 ks') (exCells k0 a0 b0 c0 d0 t0 A' ks'.length cp')) :
    Calls Tryd.prog 29 #[.slice A ks.length cp, .slice A' ks'.length cp', .func (.func 13) #[] #[]] w fun r w' => r = .returned (.bool (isB (ks = ks'))) ∧ Below w.heap.size w w' := by
  have hl := h.len.2.2
  have hmx := hl.2.1
  have hmn := hl.1
  unfold maxLen at hmx
  have IH := Lib.hid ih
  have H1 := Lib.hid h
  have H2 := Lib.hid h'
  clear ih h h' hl
  by_cases hnn : ks.length = ks'.length
  · have HNN := Lib.hid hnn
    obtain ⟨n, hn⟩ : ∃ n, ks.length = n := ⟨_, rfl⟩
    have hn' : ks'.length = n := by omega
    rw [hn'] at H2 ⊢
    rw [hn] at hmn H1 ⊢
    clear hnn
    go_enter Tryd.func29, Tryd.ntmps29
    go_wp2
    go_loopw [7, 8, 9, 17] (fun _ _ _ i wr => ∃ j : Nat, j ≤ n ∧ i = .int .i64 j ∧ Hid (ks.take j = ks'.take j) ∧ Below w.heap.size w wr) (fun _ _ _ i _ => n - (intOf i).toNat)
    case atStart => exact ⟨0, by omega, rfl, rfl, Below.refl _ _⟩
    case round =>
      obtain ⟨j, hj, rfl, HR, hwr⟩ := hrel
      have hwz := hwr.size
      by_cases hjn : j < n
      · obtain ⟨ad, k1, a1, b1, c1, d1, t1, ks1, A1, cp1, rfl, hab, hej, hx, hS⟩ := H1.out.kid (j := j) (by omega)
        obtain ⟨ad', k2, a2, b2, c2, d2, t2, ks2, A2, cp2, rfl, hab', hej', hx', hS'⟩ := H2.out.kid (j := j) (by omega)
        have hk := fun (q : Addr) (hq : q.block = (ad.add (j * 7)).block) => hwr.cell (p := q) (by rw [hq, add_block]; omega)
        have y0 := (hk _ rfl).trans hS.c0
        have y1 := (hk ⟨_, _, none⟩ rfl).trans hS.c1
        have y2 := (hk ⟨_, _, none⟩ rfl).trans hS.c2
        have y3 := (hk ⟨_, _, none⟩ rfl).trans hS.c3
        have y4 := (hk ⟨_, _, none⟩ rfl).trans hS.c4
        have y5 := (hk ⟨_, _, none⟩ rfl).trans hS.c5
        have y6 := (hk ⟨_, _, none⟩ rfl).trans hS.c6
        have hk' := fun (q : Addr) (hq : q.block = (ad'.add (j * 7)).block) => hwr.cell (p := q) (by rw [hq, add_block]; omega)
        have x0 := (hk' _ rfl).trans hS'.c0
        have x1 := (hk' ⟨_, _, none⟩ rfl).trans hS'.c1
        have x2 := (hk' ⟨_, _, none⟩ rfl).trans hS'.c2
        have x3 := (hk' ⟨_, _, none⟩ rfl).trans hS'.c3
        have x4 := (hk' ⟨_, _, none⟩ rfl).trans hS'.c4
        have x5 := (hk' ⟨_, _, none⟩ rfl).trans hS'.c5
        have x6 := (hk' ⟨_, _, none⟩ rfl).trans hS'.c6
        have hcall : ∀ W : World, Below w.heap.size w W → Calls Tryd.prog 13 #[.agg #[.int .i64 k1, .int .u64 a1, .int .u64 b1, .int .u64 c1, .int .u64 d1, .string t1, .slice A1 ks1.length cp1], .agg #[.int .i64 k2, .int .u64 a2, .int .u64 b2, .int .u64 c2, .int .u64 d2, .string t2, .slice A2 ks2.length cp2]] W fun r w' => r = .returned (.bool (isB (Ex.mk k1 a1 b1 c1 d1 t1 ks1 = .mk k2 a2 b2 c2 d2 t2 ks2))) ∧ Below W.heap.size W w' := fun W hW =>
          IH.out _ (List.mem_of_getElem? hej) _ _ _ W (hx.grow hW) (hx'.grow hW)
        have HCall := Lib.hid hcall
        have HEJ := Lib.hid hej
        have HEJ' := Lib.hid hej'
        have hba : (ad.add (j * 7)).block < wr.heap.size := by rw [add_block]; omega
        have hba' : (ad'.add (j * 7)).block < wr.heap.size := by rw [add_block]; omega
        clear hcall hk hk' hS hS' hx hx' hej hej'
        by_cases heq : Ex.mk k1 a1 b1 c1 d1 t1 ks1 = .mk k2 a2 b2 c2 d2 t2 ks2
        · have HEQ := Lib.hid heq
          have hxx := isB_yes heq
          rw [hxx] at HCall
          clear heq hxx
          go_wp2_with fail
          refine (HCall.out _ (by repeat (first | exact Below.refl _ _ | assumption | refine Below.drew ?_ | refine below_drewN ?_ _ | refine Below.alloc ?_ (by first | omega | (simp; omega) | simp) _ | refine Below.setCell ?_ (by first | omega | (simp; omega) | simp) _))).mono ?_
          rintro e w2 ⟨rfl, hb2⟩
          have hw2 : Below w.heap.size w w2 := Below.trans (by repeat (first | exact Below.refl _ _ | assumption | refine Below.drew ?_ | refine below_drewN ?_ _ | refine Below.alloc ?_ (by first | omega | (simp; omega) | simp) _ | refine Below.setCell ?_ (by first | omega | (simp; omega) | simp) _)) (hb2.mono (by first | omega | (simp; omega) | simp))
          clear hb2
          go_wp2
          go_roundw
          case rel => exact ⟨j + 1, by omega, by go_num, by show _ = _; rw [take_succ_of HEJ.out, take_succ_of HEJ'.out, HR.out, HEQ.out], hw2⟩
          case measure => simp [intOf]; omega
        · have hne : ks ≠ ks' := fun e => heq (by have h1 := HEJ.out; rw [e, HEJ'.out] at h1; injection h1 with h1; exact h1.symm)
          have hxx := isB_no heq
          have hxy := isB_no hne
          rw [hxx] at HCall
          have HXY := Lib.hid hxy
          clear heq hxx hxy hne
          go_wp2_with fail
          refine (HCall.out _ (by repeat (first | exact Below.refl _ _ | assumption | refine Below.drew ?_ | refine below_drewN ?_ _ | refine Below.alloc ?_ (by first | omega | (simp; omega) | simp) _ | refine Below.setCell ?_ (by first | omega | (simp; omega) | simp) _))).mono ?_
          rintro e w2 ⟨rfl, hb2⟩
          have hw2 : Below w.heap.size w w2 := Below.trans (by repeat (first | exact Below.refl _ _ | assumption | refine Below.drew ?_ | refine below_drewN ?_ _ | refine Below.alloc ?_ (by first | omega | (simp; omega) | simp) _ | refine Below.setCell ?_ (by first | omega | (simp; omega) | simp) _)) (hb2.mono (by first | omega | (simp; omega) | simp))
          clear hb2
          go_wp2
          go_ret
          exact ⟨ret_bool HXY.out.symm, hw2⟩
      · obtain rfl : j = n := by omega
        have hxy : isB (ks = ks') = true := isB_yes (by have := HR.out; rwa [List.take_of_length_le (by omega), List.take_of_length_le (by omega)] at this)
        have HXY := Lib.hid hxy
        clear hxy
        go_wp2
        go_ret
        exact ⟨ret_bool HXY.out.symm, hwr⟩
  · have hxy : isB (ks = ks') = false := isB_no fun e => hnn (by rw [e])
    have hb : ((ks.length : Int) != (ks'.length : Int)) = true := by rw [bne_iff_ne]; omega
    rw [hxy]
    clear hxy hnn
    go_enter Tryd.func29, Tryd.ntmps29
    go_wp2
    go_ret
    exact ⟨rfl, Below.refl _ _⟩

set_option maxRecDepth 100000 in
set_option maxHeartbeats 4000000 in
theorem samex_any (e : Ex) : SameX e := by
  refine Ex.ind (P := SameX) ?_ e
  intro k a b c d t ks ih f cs cs' w he hf
  cases f with
  | mk k0 a0 b0 c0 d0 t0 ks0 =>
  obtain ⟨_, A, cp, rfl, -⟩ := he.shape
  obtain ⟨_, A0, cp0, rfl, -⟩ := hf.shape
  have hcall := fun (W : World) (hW : Below w.heap.size w W) => equalX_any (w := W) ih (he.grow hW) (hf.grow hW)
  have HCall := Lib.hid hcall
  clear hcall ih he hf
  have hq := fun w => run_same_set w a b c d a0 b0 c0 d0
  have ht := toList_eq_iff t t0
  unfold exCells
  by_cases h1 : k = k0
  rotate_left
  · have hk : (k == k0) = false := by rw [beq_eq_false_iff_ne]; exact h1
    rw [isB_no fun e => by injection e with e1; exact h1 e1]
    clear h1
    go_enter Tryd.func13, Tryd.ntmps13
    go_wp2
    go_ret
    exact ⟨rfl, (by repeat (first | exact Below.refl _ _ | assumption | refine Below.drew ?_ | refine below_drewN ?_ _ | refine Below.alloc ?_ (by first | omega | (simp; omega) | simp) _ | refine Below.setCell ?_ (by first | omega | (simp; omega) | simp) _))⟩
  subst h1
  by_cases h2 : a = a0 ∧ b = b0 ∧ c = c0 ∧ d = d0
  rotate_left
  · have hz : (a == a0 && (b == b0 && (c == c0 && d == d0))) = false := by
      rw [Bool.eq_false_iff]
      intro e
      simp at e
      exact h2 e
    rw [hz] at hq
    rw [isB_no fun e => by injection e with e1 e2 e3 e4 e5; exact h2 ⟨e2, e3, e4, e5⟩]
    clear h2 hz
    go_enter Tryd.func13, Tryd.ntmps13
    go_wp2
    go_ret
    exact ⟨rfl, (by repeat (first | exact Below.refl _ _ | assumption | refine Below.drew ?_ | refine below_drewN ?_ _ | refine Below.alloc ?_ (by first | omega | (simp; omega) | simp) _ | refine Below.setCell ?_ (by first | omega | (simp; omega) | simp) _))⟩
  obtain ⟨rfl, rfl, rfl, rfl⟩ := h2
  have hz : (a == a && (b == b && (c == c && d == d))) = true := by simp
  rw [hz] at hq
  by_cases h3 : t.data.toList = t0.data.toList
  rotate_left
  · rw [decide_eq_false h3] at ht
    rw [isB_no fun e => by injection e with e1 e2 e3 e4 e5 e6; exact h3 (by rw [e6])]
    clear h3 hz
    go_enter Tryd.func13, Tryd.ntmps13
    go_wp2
    go_ret
    exact ⟨rfl, (by repeat (first | exact Below.refl _ _ | assumption | refine Below.drew ?_ | refine below_drewN ?_ _ | refine Below.alloc ?_ (by first | omega | (simp; omega) | simp) _ | refine Below.setCell ?_ (by first | omega | (simp; omega) | simp) _))⟩
  rw [decide_eq_true h3] at ht
  have h4 := bytes_eq h3
  have hx : isB (Ex.mk k a b c d t ks = .mk k a b c d t0 ks0) = isB (ks = ks0) := by
    subst h4
    by_cases h5 : ks = ks0
    · rw [isB_yes h5, isB_yes (by rw [h5])]
    · rw [isB_no h5, isB_no fun e => by injection e with _ _ _ _ _ _ e7; exact h5 e7]
  rw [hx]
  generalize isB (ks = ks0) = x at HCall
  clear h3 hz h4 hx
  go_enter Tryd.func13, Tryd.ntmps13
  go_wp2_with fail
  refine (HCall.out _ (by repeat (first | exact Below.refl _ _ | assumption | refine Below.drew ?_ | refine below_drewN ?_ _ | refine Below.alloc ?_ (by first | omega | (simp; omega) | simp) _ | refine Below.setCell ?_ (by first | omega | (simp; omega) | simp) _))).mono ?_
  rintro e w2 ⟨rfl, hb2⟩
  have hw2 : Below w.heap.size w w2 := Below.trans (by repeat (first | exact Below.refl _ _ | assumption | refine Below.drew ?_ | refine below_drewN ?_ _ | refine Below.alloc ?_ (by first | omega | (simp; omega) | simp) _ | refine Below.setCell ?_ (by first | omega | (simp; omega) | simp) _)) (hb2.mono (by first | omega | (simp; omega) | simp)); have hzw2 := hw2.size; clear hb2
  go_wp2
  go_ret
  exact ⟨rfl, hw2⟩
end Go.Proofs.YtndhbdbfjkmloaaDoor
namespace Go.Proofs.YtndhbdbfjkmloaaDoor
open Go.Shelf
def sh_lays156_ren : Go.Shelf.Ren := ⟨fun | 156 => 59 | 165 => 88 | 166 => 89 | 169 => 90 | 240 => 113 | 241 => 114 | 276 => 132 | 277 => 133 | n => n, fun | 31 => 74 | 9 => 9 | 3 => 3 | 4 => 4 | 0 => 0 | 20 => 20 | 72 => 160 | 76 => 164 | 70 => 157 | 37 => 158 | 75 => 163 | 127 => 183 | 164 => 195 | 5 => 5 | 80 => 166 | n => n, fun | n => n⟩
theorem sh_lays156 : Go.Proofs.Lays.n156 Tryd.prog sh_lays156_ren := {
  mixed := by kernel_rfl
  f156 := Tryd.func59.trans (congrArg some (by kernel_rfl))
  f165 := Tryd.func88.trans (congrArg some (by kernel_rfl))
  f166 := Tryd.func89.trans (congrArg some (by kernel_rfl))
  f169 := Tryd.func90.trans (congrArg some (by kernel_rfl))
  f240 := Tryd.func113.trans (congrArg some (by kernel_rfl))
  f241 := Tryd.func114.trans (congrArg some (by kernel_rfl))
  f276 := Tryd.func132.trans (congrArg some (by kernel_rfl))
  f277 := Tryd.func133.trans (congrArg some (by kernel_rfl))
  t0 := Tryd.underlying0
  a0 := Tryd.isAgg0
  z0 := Tryd.sizeOf0
  v0 := Tryd.zeroValue0
  t3 := Tryd.underlying3
  a3 := Tryd.isAgg3
  z3 := Tryd.sizeOf3
  v3 := Tryd.zeroValue3
  t4 := Tryd.underlying4
  a4 := Tryd.isAgg4
  z4 := Tryd.sizeOf4
  v4 := Tryd.zeroValue4
  t9 := Tryd.underlying9
  a9 := Tryd.isAgg9
  z9 := Tryd.sizeOf9
  v9 := Tryd.zeroValue9
  t20 := Tryd.underlying20
  a20 := Tryd.isAgg20
  z20 := Tryd.sizeOf20
  v20 := Tryd.zeroValue20
  t31 := Tryd.underlying74
  a31 := Tryd.isAgg74
  z31 := Tryd.sizeOf74
  v31 := Tryd.zeroValue74
  t37 := Tryd.underlying158
  a37 := Tryd.isAgg158
  z37 := Tryd.sizeOf158
  v37 := Tryd.zeroValue158
  t70 := Tryd.underlying157
  a70 := Tryd.isAgg157
  z70 := Tryd.sizeOf157
  v70 := Tryd.zeroValue157
  t72 := Tryd.underlying160
  a72 := Tryd.isAgg160
  z72 := Tryd.sizeOf160
  v72 := Tryd.zeroValue160
  t75 := Tryd.underlying163
  a75 := Tryd.isAgg163
  z75 := Tryd.sizeOf163
  v75 := Tryd.zeroValue163
  t76 := Tryd.underlying164
  a76 := Tryd.isAgg164
  z76 := Tryd.sizeOf164
  v76 := Tryd.zeroValue164
  t127 := Tryd.underlying183
  a127 := Tryd.isAgg183
  z127 := Tryd.sizeOf183
  v127 := Tryd.zeroValue183
  t164 := Tryd.underlying195
  a164 := Tryd.isAgg195
  z164 := Tryd.sizeOf195
  v164 := Tryd.zeroValue195 }
theorem sh_Builder_Extra_156 : Builder.Extra Tryd.prog sh_lays156_ren := {
  sizeBuilder := by kernel_rfl
  liesBuilder := by kernel_rfl
  t5 := Tryd.underlying5
  a5 := Tryd.isAgg5
  z5 := Tryd.sizeOf5
  v5 := Tryd.zeroValue5
  infoByte := by kernel_rfl
  cellsByte := by kernel_rfl
  sizeByte := by kernel_rfl
  neB5 := by decide }
open Go.RowKit in
theorem sh_strings_Join (bk o c : Nat) (xs : List ByteArray) (sep : ByteArray) (w : World) (hcells : ∀ (j : Nat) x, xs[j]? = some x → w.cell? ⟨bk, o + j, none⟩ = some (.string x)) (hbk : bk < w.heap.size) (hN : xs.length ≤ 140737488355328) (hcap : xs.length ≤ c) (hlen : (Lib.join (xs.map (·.data.toList)) sep.data.toList).length ≤ 140737488355328) :
    Calls Tryd.prog 59 #[.slice (some ⟨bk, o, none⟩) xs.length c, .string sep] w fun e w' => e = .returned (.string ⟨(Lib.join (xs.map (·.data.toList)) sep.data.toList).toArray⟩) ∧ Below w.heap.size w w' := Any.strings_Join sh_lays156 sh_Builder_Extra_156 bk o c xs sep w hcells hbk hN hcap hlen
end Go.Proofs.YtndhbdbfjkmloaaDoor
namespace Go.Proofs.YtndhbdbfjkmloaaDoor
open Go.RowKit

theorem level_any (k a b c d : Int) (t : ByteArray) (A : Option Addr) (n cp : Nat) (w : World) :
    Calls Tryd.prog 87 #[.agg #[.int .i64 k, .int .u64 a, .int .u64 b, .int .u64 c, .int .u64 d, .string t, .slice A n cp]] w fun e w' => e = .returned (.int .i64 (lvl k : Nat)) ∧ Below w.heap.size w w' := by
  by_cases h : k = 6 ∨ k = 5 ∨ k = 10 ∨ k = 11 ∨ k = 7 ∨ k = 8 ∨ k = 9
  · rcases h with rfl | rfl | rfl | rfl | rfl | rfl | rfl
    all_goals
      go_enter Tryd.func87, Tryd.ntmps87
      go_wp2
      go_ret
      exact ⟨rfl, (by repeat (first | exact Below.refl _ _ | assumption | refine Below.drew ?_ | refine below_drewN ?_ _ | refine Below.alloc ?_ (by first | omega | (simp; omega) | simp) _ | refine Below.setCell ?_ (by first | omega | (simp; omega) | simp) _))⟩
  · have h1 : (k == 6) = false := by rw [beq_eq_false_iff_ne]; omega
    have h2 : (k == 5) = false := by rw [beq_eq_false_iff_ne]; omega
    have h3 : (k == 10) = false := by rw [beq_eq_false_iff_ne]; omega
    have h4 : (k == 11) = false := by rw [beq_eq_false_iff_ne]; omega
    have h5 : (k == 7) = false := by rw [beq_eq_false_iff_ne]; omega
    have h6 : (k == 8) = false := by rw [beq_eq_false_iff_ne]; omega
    have h7 : (k == 9) = false := by rw [beq_eq_false_iff_ne]; omega
    have hl : lvl k = 5 := by unfold lvl; rw [if_neg (by omega), if_neg (by omega), if_neg (by omega), if_neg (by omega)]
    rw [hl]
    go_enter Tryd.func87, Tryd.ntmps87
    go_wp2
    go_ret
    exact ⟨rfl, (by repeat (first | exact Below.refl _ _ | assumption | refine Below.drew ?_ | refine below_drewN ?_ _ | refine Below.alloc ?_ (by first | omega | (simp; omega) | simp) _ | refine Below.setCell ?_ (by first | omega | (simp; omega) | simp) _))⟩

/-! how long a text is -/
theorem brk_len (e : Ex) (least : Nat) (s : List UInt8) : (brk e least s).length ≤ s.length + 2 := by
  unfold brk
  split <;> simp
theorem txL_len (least : Nat) : ∀ ks : List Ex, (txL least ks).length = ks.length
  | [] => rfl
  | e :: ks => by rw [txL, List.length_cons, List.length_cons, txL_len least ks]
theorem lens_txL (least : Nat) : ∀ ks : List Ex, (∀ e ∈ ks, (txE e).length + 6 ≤ 3000 * nodes e) → Lib.lens (txL least ks) + 3 * ks.length ≤ 3000 * nodesAll ks
  | [], _ => by simp [txL, Lib.lens, nodesAll]
  | e :: ks, h => by
    have h1 := h e (.head _)
    have h2 := lens_txL least ks fun x hx => h x (.tail _ hx)
    have h3 := brk_len e least (txE e)
    rw [txL, nodesAll]
    simp only [Lib.lens, List.map_cons, List.sum_cons, List.length_cons] at h2 ⊢
    omega
theorem join_txL (least : Nat) (sep : List UInt8) (hs : sep.length ≤ 3) (ks : List Ex) (h : ∀ e ∈ ks, (txE e).length + 6 ≤ 3000 * nodes e) : (Lib.join (txL least ks) sep).length ≤ 3000 * nodesAll ks := by
  cases ks with
  | nil => simp [txL, Lib.join_nil]
  | cons e ks =>
    have h1 := lens_txL least (e :: ks) h
    rw [txL] at h1 ⊢
    rw [Lib.join_length]
    have := txL_len least ks
    have h2 : sep.length * ks.length ≤ 3 * ks.length := Nat.mul_le_mul_right _ hs
    have h3 : ks.length * sep.length ≤ 3 * ks.length := by rw [Nat.mul_comm]; exact h2
    simp only [List.length_cons, txL_len] at h1 ⊢
    omega
theorem flat_len (least : Nat) (e : Ex) (h : (txE e).length + 6 ≤ 3000 * nodes e) : (txL least [e]).flatten.length ≤ 3000 * nodesAll [e] := by
  have := brk_len e least (txE e)
  rw [txL, txL, flat_one]
  simp only [nodesAll]
  omega
theorem clsAll_len (l : List Nat) : (clsAll l).length ≤ 2400 := by
  have := clsT_len l 257 (fstB l 0)
  unfold clsAll
  simp only [List.cons_append, List.length_cons, List.length_append, List.length_nil]
  omega
theorem name_lenX {t : List UInt8} (h : nameB t = true) : t.length ≤ 8 := by
  unfold nameB at h
  simp only [Bool.and_eq_true, decide_eq_true_iff] at h
  exact h.1.2
theorem tx_len (e : Ex) : Rtx e → (txE e).length + 6 ≤ 3000 * nodes e := by
  induction e using Ex.ind with
  | h k a b c d t ks ih =>
    intro hR
    cases hR with
    | mk _ _ _ _ _ _ _ hf ha hb hc hd hks =>
    have IH : ∀ e ∈ ks, (txE e).length + 6 ≤ 3000 * nodes e := fun e he => ih e he (hks e he)
    have hj := fun least sep hs => join_txL least sep hs ks IH
    rw [nodes]
    rcases fit_what hf with ⟨rfl, _⟩ | ⟨rfl, _⟩ | ⟨rfl, ht, _⟩ | ⟨rfl, ht, _⟩ | ⟨hk, _⟩ | ⟨hk, ht, _, hn⟩
    · rw [txE, if_pos rfl]
      simp only [List.length_cons, List.length_nil]
      omega
    · rw [txE, if_neg (by decide), if_pos rfl]
      split
      · simp only [List.length_cons, List.length_nil]
        omega
      · have := clsAll_len [a.toNat, b.toNat, c.toNat, d.toNat]
        omega
    · rw [txE, if_neg (by decide), if_neg (by decide), if_pos rfl]
      have := encAll_len false t.data.toList
      unfold litL
      simp only [List.length_cons, List.length_append, List.length_nil]
      have := ht.2
      omega
    · rw [txE, if_neg (by decide), if_neg (by decide), if_neg (by decide), if_pos rfl]
      have := name_lenX ht
      omega
    · rcases hk with rfl | rfl
      · have := hj 3 [32] (by decide)
        rw [txE]
        simp only [Int.reduceEq, if_false]
        omega
      · have := hj 2 [32, 47, 32] (by decide)
        rw [txE]
        simp only [Int.reduceEq, if_false, if_true]
        omega
    · obtain ⟨e0, rfl⟩ : ∃ e0, ks = [e0] := by
        match ks, hn with
        | [e0], _ => exact ⟨e0, rfl⟩
      have h3 := flat_len 3 e0 (IH e0 (.head _))
      have h4 := flat_len 4 e0 (IH e0 (.head _))
      rcases (show k = 7 ∨ k = 8 ∨ k = 9 ∨ k = 10 ∨ k = 11 by omega) with rfl | rfl | rfl | rfl | rfl
      all_goals
        rw [txE]
        simp only [Int.reduceEq, if_false, if_true, List.length_cons, List.length_append, List.length_nil]
        omega
theorem rt_ofX {e : Ex} : WfE e → checkE e = 0 → Rtx e := by
  induction e using Ex.ind with
  | h k a b c d t ks ih =>
    intro hw hc
    cases hw with
    | mk _ _ _ _ _ _ _ h1 h2 h3 h4 h5 hks =>
    obtain ⟨_, hp, _⟩ := parts_ok hc
    refine .mk _ _ _ _ _ _ _ ?_ h2 h3 h4 h5 fun e he => ih e he (hks e he) ?_
    · unfold checkE at hc
      rw [lookN] at hc
      split at hc
      · omega
      · split at hc
        · omega
        · split at hc
          · omega
          · rename_i hf
            exact Bool.not_eq_false _ ▸ hf
    · have := hp e he
      by_cases h0 : checkE e = 0
      · exact h0
      · rw [size_bad h0] at this
        injection this with e1 e2
theorem nodes_leX {e : Ex} (h : checkE e = 0) : nodes e ≤ 60 := by
  cases e with
  | mk k a b c d t ks =>
    have h1 := look_ok _ 0 1 h 0 1 (Nat.le_refl _) (Nat.le_refl _)
    have h2 := lookN_le (.mk k a b c d t ks) 0 1 (by omega)
    have h3 := h2.2 h
    rw [h1] at h3
    simpa using h3
end Go.Proofs.YtndhbdbfjkmloaaDoor
