/- What quote.Class answers. chaffref.Same and SameGrammar: are two expressions, two grammars the same? The contract of strings.Join, laid by the kit's shelf at this seat (wip/shelf.py writes this text anew for another seat). show.level, show.within, show.text. Grammars as text, and how a text is read as one: plain. Rules that are made anew: a grammar that rests on some blocks alone; rules in a row while they are appended. -/
import Derived.Test.YtndhbdbfjkmloaaDoorJTopText3
import Derived.Test.YtndhbdbfjkmloaaDoorJTopText13
import Derived.Test.YtndhbdbfjkmloaaDoorJTopText7
import Derived.Test.YtndhbdbfjkmloaaDoorJTopText1
import Derived.Shelf.Strings.Builder1
import Derived.Shelf.Strings.Builder2
import Derived.Shelf.Strings.OnBuilder
import Derived.Shelf.Strings.BuilderF
import Derived.Shelf.Strings.BuilderK
import Derived.Shelf.Strings.Builder2Cap
import Derived.Test.YtndhbdbfjkmloaaDoorProg
import Derived.Test.YtndhbdbfjkmloaaDoorJTopText12
namespace Go.Proofs.YtndhbdbfjkmloaaDoor
set_option maxHeartbeats 2000000
set_option maxRecDepth 100000
open Go.RowKit
theorem app_data' (a b : ByteArray) : (a ++ b).data.toList = a.data.toList ++ b.data.toList := by simp
theorem enc_len' (cls : Bool) (n : Nat) : (enc cls n).length <= 4 := by
  unfold enc
  split
  · simp
  · split
    · simp
    · split
      · simp
      · split <;> simp
theorem clsT_len (l : List Nat) : ∀ k r, (clsT l k r).length <= 9 * k
  | 0, _ => by simp [clsT]
  | k + 1, r => by
    have ih := clsT_len l k
    rw [clsT]
    split
    · simp
    · rw [List.length_append]
      have h := ih (fstB l (runB l r.toNat + 1))
      have h1 := enc_len' true r.toNat
      have h2 := enc_len' true (runB l r.toNat)
      have h3 : (piece r.toNat (runB l r.toNat)).length <= 9 := by
        unfold piece
        rw [List.length_append]
        split
        · omega
        · split
          · rw [List.length_cons]; omega
          · simp; omega
      omega
theorem class_any (l : List Nat) (hl : Words l) (w : World) (hT : TabAt w) :
    Calls Tryd.prog 57 #[vals l] w fun e w' => (∃ u : ByteArray, e = .returned (.string u) /\ u.data.toList = clsAll l) /\ Below w.heap.size w w' := by
  have hpos := hT.pos
  have HT := Lib.hid hT
  have HF : Hid (∀ (f : Nat) (W : World), f <= 256 -> TabAt W -> Calls Tryd.prog 85 #[vals l, .int .i64 f] W fun e w' => e = .returned (.int .i64 (fstB l f)) /\ Below W.heap.size W w') := fun f W hf hT => (first_any l hl f hf W hT).mono fun e w' ⟨r, h1, h2, h3⟩ => ⟨by rw [h1, h2.uniq (fstB_is l f hf)], h3⟩
  have HH : Hid (∀ (b : Nat) (W : World), b < 256 -> Calls Tryd.prog 86 #[vals l, .int .u8 b] W fun e w' => e = .returned (.bool (hasN l b)) /\ Below W.heap.size W w') := fun b W hb => has_any l hl b hb W
  have HO : Hid (∀ (n : Nat) (W : World), n < 256 -> Calls Tryd.prog 73 #[.int .u8 n, .string ⟨#[91, 93, 45, 94, 92]⟩] W fun e w' => e = .returned (.string ⟨(enc true n).toArray⟩) /\ Below W.heap.size W w') := fun n W hn => one_any true n hn W
  clear hl hT
  unfold vals at HF HH ⊢
  generalize l.getD 0 0 = e0 at HF HH ⊢
  generalize l.getD 1 0 = e1 at HF HH ⊢
  generalize l.getD 2 0 = e2 at HF HH ⊢
  generalize l.getD 3 0 = e3 at HF HH ⊢
  go_enter Tryd.func57, Tryd.ntmps57
  go_wp2_with fail
  refine (HF.out 0 _ (by omega) (HT.out.below ((Below.refl _ _).alloc (Nat.le_refl _) _) hpos)).mono ?_
  rintro e w1 ⟨rfl, hb1⟩
  have hB : Blk w1 w.heap.size 24 #[.int .u64 e0, .int .u64 e1, .int .u64 e2, .int .u64 e3] := (blk_at rfl).below hb1 (by simp)
  have hbw0 : Below w.heap.size w w1 := ((Below.refl _ _).alloc (Nat.le_refl _) _).trans (hb1.mono (by simp))
  clear hb1
  have htot := clsT_len l 257 (fstB l 0)
  have HALL : Hid (clsAll l = (91 :: clsT l 257 (fstB l 0)) ++ [93]) := rfl
  have HR0 := Lib.hid (fstB_is l 0 (by omega))
  generalize hC : clsT l 257 (fstB l 0) = C at htot HALL
  have HC := Lib.hid hC
  clear hC
  generalize hr0 : fstB l 0 = r0 at HC HR0
  have HR00 := Lib.hid hr0
  clear hr0
  go_wp2_with fail
  go_loopw [3, 4] (fun o b wr => ∃ (f k : Nat) (u : ByteArray) (r : Int), f <= 256 /\ 257 <= k + f /\ b = .int .i64 r /\ o = .string u /\ Hid (fstB l f = r) /\ Hid (u.data.toList ++ clsT l k r = 91 :: C) /\ Below w.heap.size w wr /\ Blk wr w.heap.size 24 #[.int .u64 e0, .int .u64 e1, .int .u64 e2, .int .u64 e3]) (fun _ b _ => (300 - intOf b).toNat % 301)
  case atStart => exact ⟨0, 257, ⟨#[91]⟩, r0, by omega, by omega, rfl, rfl, HR00, by show _ = _; rw [HC.out]; rfl, hbw0, hB⟩
  case round =>
    obtain ⟨f, k, u, r, hf, hk, rfl, rfl, HFR, HU, hbw, hB⟩ := hrel
    have hus : u.size <= 2400 := by
      have h1 := congrArg List.length HU.out
      have h2 := size_list u
      rw [List.length_append, List.length_cons] at h1
      omega
    have z0 : wr.cell? ⟨w.heap.size, 0, none⟩ = some (.int .u64 e0) := hB.cell 0
    have z1 : wr.cell? ⟨w.heap.size, 1, none⟩ = some (.int .u64 e1) := hB.cell 1
    have z2 : wr.cell? ⟨w.heap.size, 2, none⟩ = some (.int .u64 e2) := hB.cell 2
    have z3 : wr.cell? ⟨w.heap.size, 3, none⟩ = some (.int .u64 e3) := hB.cell 3
    by_cases hr0 : 0 <= r
    · obtain ⟨b, rfl⟩ := Int.eq_ofNat_of_zero_le hr0
      have hFI : FirstIs l f (b : Int) := by rw [<- HFR.out]; exact fstB_is l f hf
      obtain ⟨hfb, hb256, _, _⟩ := hFI.cnt
      have HFI := Lib.hid hFI
      clear hFI
      obtain ⟨k', rfl⟩ : ∃ k', k = k' + 1 := ⟨k - 1, by omega⟩
      go_wp2_with fail
      go_loopw [4] (fun b' wr' => ∃ c : Nat, b <= c /\ c <= 255 /\ b' = .int .i64 c /\ Hid (runB l c = runB l b) /\ Below w.heap.size w wr' /\ Blk wr' w.heap.size 24 #[.int .u64 e0, .int .u64 e1, .int .u64 e2, .int .u64 e3]) (fun b' _ => 255 - (intOf b').toNat)
      case atStart => exact ⟨b, by omega, by omega, rfl, rfl, hbw, hB⟩
      case round =>
        obtain ⟨c, hbc, hc255, rfl, HRC, hbw', hB'⟩ := hrel
        have z0 : wr.cell? ⟨w.heap.size, 0, none⟩ = some (.int .u64 e0) := hB'.cell 0
        have z1 : wr.cell? ⟨w.heap.size, 1, none⟩ = some (.int .u64 e1) := hB'.cell 1
        have z2 : wr.cell? ⟨w.heap.size, 2, none⟩ = some (.int .u64 e2) := hB'.cell 2
        have z3 : wr.cell? ⟨w.heap.size, 3, none⟩ = some (.int .u64 e3) := hB'.cell 3
        by_cases hc : c < 255
        · have hwc1 : IntKind.u8.wrap ((c : Int) + 1) = ((c + 1 : Nat) : Int) := by rw [IntKind.wrap_u8]; omega
          have hci : (c : Int) < 255 := by omega
          have HH1 := HH.out (c + 1)
          cases hv : hasN l (c + 1)
          all_goals rw [hv] at HH1
          all_goals have HH2 := Lib.hid HH1
          all_goals clear HH1
          · have HST : Hid (¬ (c < 255 /\ hasN l (c + 1) = true)) := by
              rintro ⟨_, h⟩
              rw [hv] at h
              cases h
            clear hv
            go_wp2_with fail
            refine (HH2.out _ (by omega)).mono ?_
            rintro e wt ⟨rfl, hbh⟩
            have hbt := hbw'.trans (hbh.mono hbw'.size)
            have hBt := hB'.below hbh hB'.lt
            clear hbh
            have HRB : Hid (runB l b = c) := by
              show runB l b = c
              rw [<- HRC.out]
              exact runB_stop HST.out
            have hwb : IntKind.u8.wrap (b : Int) = (b : Int) := by rw [IntKind.wrap_u8]; omega
            have hwc : IntKind.u8.wrap (c : Int) = (c : Int) := by rw [IntKind.wrap_u8]; omega
            have he1 : (⟨(enc true b).toArray⟩ : ByteArray).size <= 4 := (show (enc true b).toArray.size <= 4 from by have := enc_len' true b; simpa using this)
            have he2 : (⟨(enc true c).toArray⟩ : ByteArray).size <= 4 := (show (enc true c).toArray.size <= 4 from by have := enc_len' true c; simpa using this)
            have HO1 : Hid (∀ W, Calls Tryd.prog 73 #[.int .u8 b, .string ⟨#[91, 93, 45, 94, 92]⟩] W fun e w' => e = .returned (.string ⟨(enc true b).toArray⟩) /\ Below W.heap.size W w') := fun W => HO.out b W hb256
            have HO2 : Hid (∀ W, Calls Tryd.prog 73 #[.int .u8 c, .string ⟨#[91, 93, 45, 94, 92]⟩] W fun e w' => e = .returned (.string ⟨(enc true c).toArray⟩) /\ Below W.heap.size W w') := fun W => HO.out c W (by omega)
            generalize hE1 : (⟨(enc true b).toArray⟩ : ByteArray) = E1 at he1 HO1
            have HE1 : Hid (enc true b = E1.data.toList) := by show _ = _; rw [<- hE1]
            generalize hE2 : (⟨(enc true c).toArray⟩ : ByteArray) = E2 at he2 HO2
            have HE2 : Hid (enc true c = E2.data.toList) := by show _ = _; rw [<- hE2]
            clear hE1 hE2
            cases hq1 : ((c : Int) == (b : Int) + 1)
            · have HQ1 : Hid (c ≠ b + 1) := by
                intro e
                rw [e] at hq1
                simp at hq1
              by_cases hgt : b < c
              · go_wp2_with fail
                refine (HO1.out _).mono ?_
                rintro e w3 ⟨rfl, hb3⟩
                have hbz3 := hbt.trans (hb3.mono hbt.size)
                have hBz3 := hBt.below hb3 hBt.lt
                go_wp2_with fail
                refine (HO2.out _).mono ?_
                rintro e w4 ⟨rfl, hb4⟩
                have hbz := hbz3.trans (hb4.mono hbz3.size)
                have hBz := hBz3.below hb4 hBz3.lt
                have y0 : w4.cell? ⟨w.heap.size, 0, none⟩ = some (.int .u64 e0) := hBz.cell 0
                have y1 : w4.cell? ⟨w.heap.size, 1, none⟩ = some (.int .u64 e1) := hBz.cell 1
                have y2 : w4.cell? ⟨w.heap.size, 2, none⟩ = some (.int .u64 e2) := hBz.cell 2
                have y3 : w4.cell? ⟨w.heap.size, 3, none⟩ = some (.int .u64 e3) := hBz.cell 3
                go_wp2_with fail
                refine (HF.out (c + 1) _ (by omega) (HT.out.below hbz hpos)).mono ?_
                rintro e w9 ⟨rfl, hb9⟩
                have h300 : Hid ((300 - fstB l (c + 1)).toNat % 301 < 300 - b) := by
                  show (300 - fstB l (c + 1)).toNat % 301 < 300 - b
                  rcases fstB_is l (c + 1) (by omega) with ⟨x, e, _, _, _, _⟩ | ⟨e, _⟩ <;> omega
                have HR9 : Hid (fstB l (c + 1) = fstB l (c + 1)) := rfl
                generalize hr9 : fstB l (c + 1) = r9 at h300 HR9 ⊢
                have HR10 := Lib.hid hr9
                clear hr9 HR9
                go_wp2
                go_roundw
                case rel =>
                  refine ⟨c + 1, k', (u ++ E1) ++ (⟨#[45]⟩ ++ E2), r9, by omega, by omega, rfl, rfl, HR10, ?_, hbz.trans (hb9.mono hbz.size), hBz.below hb9 hBz.lt⟩
                  have h1 := HU.out
                  rw [clsT, if_neg (by omega), show (b : Int).toNat = b from rfl, HRB.out, HR10.out] at h1
                  show _ = _
                  rw [<- h1]
                  unfold piece; rw [if_neg HQ1.out, if_pos hgt, HE1.out, HE2.out]; simp
                case measure =>
                  have := h300.out
                  simp only [intOf]
                  omega
              · have HGT := Lib.hid hgt
                go_wp2_with fail
                refine (HO1.out _).mono ?_
                rintro e w4 ⟨rfl, hb3⟩
                have hbz := hbt.trans (hb3.mono hbt.size)
                have hBz := hBt.below hb3 hBt.lt
                have y0 : w4.cell? ⟨w.heap.size, 0, none⟩ = some (.int .u64 e0) := hBz.cell 0
                have y1 : w4.cell? ⟨w.heap.size, 1, none⟩ = some (.int .u64 e1) := hBz.cell 1
                have y2 : w4.cell? ⟨w.heap.size, 2, none⟩ = some (.int .u64 e2) := hBz.cell 2
                have y3 : w4.cell? ⟨w.heap.size, 3, none⟩ = some (.int .u64 e3) := hBz.cell 3
                go_wp2_with fail
                refine (HF.out (c + 1) _ (by omega) (HT.out.below hbz hpos)).mono ?_
                rintro e w9 ⟨rfl, hb9⟩
                have h300 : Hid ((300 - fstB l (c + 1)).toNat % 301 < 300 - b) := by
                  show (300 - fstB l (c + 1)).toNat % 301 < 300 - b
                  rcases fstB_is l (c + 1) (by omega) with ⟨x, e, _, _, _, _⟩ | ⟨e, _⟩ <;> omega
                have HR9 : Hid (fstB l (c + 1) = fstB l (c + 1)) := rfl
                generalize hr9 : fstB l (c + 1) = r9 at h300 HR9 ⊢
                have HR10 := Lib.hid hr9
                clear hr9 HR9
                go_wp2
                go_roundw
                case rel =>
                  refine ⟨c + 1, k', u ++ E1, r9, by omega, by omega, rfl, rfl, HR10, ?_, hbz.trans (hb9.mono hbz.size), hBz.below hb9 hBz.lt⟩
                  have h1 := HU.out
                  rw [clsT, if_neg (by omega), show (b : Int).toNat = b from rfl, HRB.out, HR10.out] at h1
                  show _ = _
                  rw [<- h1]
                  unfold piece; rw [if_neg HQ1.out, if_neg HGT.out, HE1.out]; simp
                case measure =>
                  have := h300.out
                  simp only [intOf]
                  omega
            · have HQ1 : Hid (c = b + 1) := by
                show c = b + 1
                simp at hq1
                omega
              go_wp2_with fail
              refine (HO1.out _).mono ?_
              rintro e w3 ⟨rfl, hb3⟩
              have hbz3 := hbt.trans (hb3.mono hbt.size)
              have hBz3 := hBt.below hb3 hBt.lt
              go_wp2_with fail
              refine (HO2.out _).mono ?_
              rintro e w4 ⟨rfl, hb4⟩
              have hbz := hbz3.trans (hb4.mono hbz3.size)
              have hBz := hBz3.below hb4 hBz3.lt
              have y0 : w4.cell? ⟨w.heap.size, 0, none⟩ = some (.int .u64 e0) := hBz.cell 0
              have y1 : w4.cell? ⟨w.heap.size, 1, none⟩ = some (.int .u64 e1) := hBz.cell 1
              have y2 : w4.cell? ⟨w.heap.size, 2, none⟩ = some (.int .u64 e2) := hBz.cell 2
              have y3 : w4.cell? ⟨w.heap.size, 3, none⟩ = some (.int .u64 e3) := hBz.cell 3
              go_wp2_with fail
              refine (HF.out (c + 1) _ (by omega) (HT.out.below hbz hpos)).mono ?_
              rintro e w9 ⟨rfl, hb9⟩
              have h300 : Hid ((300 - fstB l (c + 1)).toNat % 301 < 300 - b) := by
                show (300 - fstB l (c + 1)).toNat % 301 < 300 - b
                rcases fstB_is l (c + 1) (by omega) with ⟨x, e, _, _, _, _⟩ | ⟨e, _⟩ <;> omega
              have HR9 : Hid (fstB l (c + 1) = fstB l (c + 1)) := rfl
              generalize hr9 : fstB l (c + 1) = r9 at h300 HR9 ⊢
              have HR10 := Lib.hid hr9
              clear hr9 HR9
              go_wp2
              go_roundw
              case rel =>
                refine ⟨c + 1, k', (u ++ E1) ++ E2, r9, by omega, by omega, rfl, rfl, HR10, ?_, hbz.trans (hb9.mono hbz.size), hBz.below hb9 hBz.lt⟩
                have h1 := HU.out
                rw [clsT, if_neg (by omega), show (b : Int).toNat = b from rfl, HRB.out, HR10.out] at h1
                show _ = _
                rw [<- h1]
                unfold piece; rw [if_pos HQ1.out, HE1.out, HE2.out]; simp
              case measure =>
                have := h300.out
                simp only [intOf]
                omega
          · have HRC2 : Hid (runB l (c + 1) = runB l b) := (runB_step hc hv).symm.trans HRC.out
            clear hv
            go_wp2_with fail
            refine (HH2.out _ (by omega)).mono ?_
            rintro e wt ⟨rfl, hbh⟩
            go_wp2
            go_roundw
            case rel => exact ⟨c + 1, by omega, by omega, by go_num, HRC2, hbw'.trans (hbh.mono hbw'.size), hB'.below hbh hB'.lt⟩
            case measure => simp [intOf]; omega
        · have HST : Hid (¬ (c < 255 /\ hasN l (c + 1) = true)) := fun h => hc h.1
          have hci : ¬ (c : Int) < 255 := by omega
          have hbt := hbw'
          have hBt := hB'
          have HRB : Hid (runB l b = c) := by
            show runB l b = c
            rw [<- HRC.out]
            exact runB_stop HST.out
          have hwb : IntKind.u8.wrap (b : Int) = (b : Int) := by rw [IntKind.wrap_u8]; omega
          have hwc : IntKind.u8.wrap (c : Int) = (c : Int) := by rw [IntKind.wrap_u8]; omega
          have he1 : (⟨(enc true b).toArray⟩ : ByteArray).size <= 4 := (show (enc true b).toArray.size <= 4 from by have := enc_len' true b; simpa using this)
          have he2 : (⟨(enc true c).toArray⟩ : ByteArray).size <= 4 := (show (enc true c).toArray.size <= 4 from by have := enc_len' true c; simpa using this)
          have HO1 : Hid (∀ W, Calls Tryd.prog 73 #[.int .u8 b, .string ⟨#[91, 93, 45, 94, 92]⟩] W fun e w' => e = .returned (.string ⟨(enc true b).toArray⟩) /\ Below W.heap.size W w') := fun W => HO.out b W hb256
          have HO2 : Hid (∀ W, Calls Tryd.prog 73 #[.int .u8 c, .string ⟨#[91, 93, 45, 94, 92]⟩] W fun e w' => e = .returned (.string ⟨(enc true c).toArray⟩) /\ Below W.heap.size W w') := fun W => HO.out c W (by omega)
          generalize hE1 : (⟨(enc true b).toArray⟩ : ByteArray) = E1 at he1 HO1
          have HE1 : Hid (enc true b = E1.data.toList) := by show _ = _; rw [<- hE1]
          generalize hE2 : (⟨(enc true c).toArray⟩ : ByteArray) = E2 at he2 HO2
          have HE2 : Hid (enc true c = E2.data.toList) := by show _ = _; rw [<- hE2]
          clear hE1 hE2
          cases hq1 : ((c : Int) == (b : Int) + 1)
          · have HQ1 : Hid (c ≠ b + 1) := by
              intro e
              rw [e] at hq1
              simp at hq1
            by_cases hgt : b < c
            · go_wp2_with fail
              refine (HO1.out _).mono ?_
              rintro e w3 ⟨rfl, hb3⟩
              have hbz3 := hbt.trans (hb3.mono hbt.size)
              have hBz3 := hBt.below hb3 hBt.lt
              go_wp2_with fail
              refine (HO2.out _).mono ?_
              rintro e w4 ⟨rfl, hb4⟩
              have hbz := hbz3.trans (hb4.mono hbz3.size)
              have hBz := hBz3.below hb4 hBz3.lt
              have y0 : w4.cell? ⟨w.heap.size, 0, none⟩ = some (.int .u64 e0) := hBz.cell 0
              have y1 : w4.cell? ⟨w.heap.size, 1, none⟩ = some (.int .u64 e1) := hBz.cell 1
              have y2 : w4.cell? ⟨w.heap.size, 2, none⟩ = some (.int .u64 e2) := hBz.cell 2
              have y3 : w4.cell? ⟨w.heap.size, 3, none⟩ = some (.int .u64 e3) := hBz.cell 3
              go_wp2_with fail
              refine (HF.out (c + 1) _ (by omega) (HT.out.below hbz hpos)).mono ?_
              rintro e w9 ⟨rfl, hb9⟩
              have h300 : Hid ((300 - fstB l (c + 1)).toNat % 301 < 300 - b) := by
                show (300 - fstB l (c + 1)).toNat % 301 < 300 - b
                rcases fstB_is l (c + 1) (by omega) with ⟨x, e, _, _, _, _⟩ | ⟨e, _⟩ <;> omega
              have HR9 : Hid (fstB l (c + 1) = fstB l (c + 1)) := rfl
              generalize hr9 : fstB l (c + 1) = r9 at h300 HR9 ⊢
              have HR10 := Lib.hid hr9
              clear hr9 HR9
              go_wp2
              go_roundw
              case rel =>
                refine ⟨c + 1, k', (u ++ E1) ++ (⟨#[45]⟩ ++ E2), r9, by omega, by omega, rfl, rfl, HR10, ?_, hbz.trans (hb9.mono hbz.size), hBz.below hb9 hBz.lt⟩
                have h1 := HU.out
                rw [clsT, if_neg (by omega), show (b : Int).toNat = b from rfl, HRB.out, HR10.out] at h1
                show _ = _
                rw [<- h1]
                unfold piece; rw [if_neg HQ1.out, if_pos hgt, HE1.out, HE2.out]; simp
              case measure =>
                have := h300.out
                simp only [intOf]
                omega
            · have HGT := Lib.hid hgt
              go_wp2_with fail
              refine (HO1.out _).mono ?_
              rintro e w4 ⟨rfl, hb3⟩
              have hbz := hbt.trans (hb3.mono hbt.size)
              have hBz := hBt.below hb3 hBt.lt
              have y0 : w4.cell? ⟨w.heap.size, 0, none⟩ = some (.int .u64 e0) := hBz.cell 0
              have y1 : w4.cell? ⟨w.heap.size, 1, none⟩ = some (.int .u64 e1) := hBz.cell 1
              have y2 : w4.cell? ⟨w.heap.size, 2, none⟩ = some (.int .u64 e2) := hBz.cell 2
              have y3 : w4.cell? ⟨w.heap.size, 3, none⟩ = some (.int .u64 e3) := hBz.cell 3
              go_wp2_with fail
              refine (HF.out (c + 1) _ (by omega) (HT.out.below hbz hpos)).mono ?_
              rintro e w9 ⟨rfl, hb9⟩
              have h300 : Hid ((300 - fstB l (c + 1)).toNat % 301 < 300 - b) := by
                show (300 - fstB l (c + 1)).toNat % 301 < 300 - b
                rcases fstB_is l (c + 1) (by omega) with ⟨x, e, _, _, _, _⟩ | ⟨e, _⟩ <;> omega
              have HR9 : Hid (fstB l (c + 1) = fstB l (c + 1)) := rfl
              generalize hr9 : fstB l (c + 1) = r9 at h300 HR9 ⊢
              have HR10 := Lib.hid hr9
              clear hr9 HR9
              go_wp2
              go_roundw
              case rel =>
                refine ⟨c + 1, k', u ++ E1, r9, by omega, by omega, rfl, rfl, HR10, ?_, hbz.trans (hb9.mono hbz.size), hBz.below hb9 hBz.lt⟩
                have h1 := HU.out
                rw [clsT, if_neg (by omega), show (b : Int).toNat = b from rfl, HRB.out, HR10.out] at h1
                show _ = _
                rw [<- h1]
                unfold piece; rw [if_neg HQ1.out, if_neg HGT.out, HE1.out]; simp
              case measure =>
                have := h300.out
                simp only [intOf]
                omega
          · have HQ1 : Hid (c = b + 1) := by
              show c = b + 1
              simp at hq1
              omega
            go_wp2_with fail
            refine (HO1.out _).mono ?_
            rintro e w3 ⟨rfl, hb3⟩
            have hbz3 := hbt.trans (hb3.mono hbt.size)
            have hBz3 := hBt.below hb3 hBt.lt
            go_wp2_with fail
            refine (HO2.out _).mono ?_
            rintro e w4 ⟨rfl, hb4⟩
            have hbz := hbz3.trans (hb4.mono hbz3.size)
            have hBz := hBz3.below hb4 hBz3.lt
            have y0 : w4.cell? ⟨w.heap.size, 0, none⟩ = some (.int .u64 e0) := hBz.cell 0
            have y1 : w4.cell? ⟨w.heap.size, 1, none⟩ = some (.int .u64 e1) := hBz.cell 1
            have y2 : w4.cell? ⟨w.heap.size, 2, none⟩ = some (.int .u64 e2) := hBz.cell 2
            have y3 : w4.cell? ⟨w.heap.size, 3, none⟩ = some (.int .u64 e3) := hBz.cell 3
            go_wp2_with fail
            refine (HF.out (c + 1) _ (by omega) (HT.out.below hbz hpos)).mono ?_
            rintro e w9 ⟨rfl, hb9⟩
            have h300 : Hid ((300 - fstB l (c + 1)).toNat % 301 < 300 - b) := by
              show (300 - fstB l (c + 1)).toNat % 301 < 300 - b
              rcases fstB_is l (c + 1) (by omega) with ⟨x, e, _, _, _, _⟩ | ⟨e, _⟩ <;> omega
            have HR9 : Hid (fstB l (c + 1) = fstB l (c + 1)) := rfl
            generalize hr9 : fstB l (c + 1) = r9 at h300 HR9 ⊢
            have HR10 := Lib.hid hr9
            clear hr9 HR9
            go_wp2
            go_roundw
            case rel =>
              refine ⟨c + 1, k', (u ++ E1) ++ E2, r9, by omega, by omega, rfl, rfl, HR10, ?_, hbz.trans (hb9.mono hbz.size), hBz.below hb9 hBz.lt⟩
              have h1 := HU.out
              rw [clsT, if_neg (by omega), show (b : Int).toNat = b from rfl, HRB.out, HR10.out] at h1
              show _ = _
              rw [<- h1]
              unfold piece; rw [if_pos HQ1.out, HE1.out, HE2.out]; simp
            case measure =>
              have := h300.out
              simp only [intOf]
              omega
    · have hrn : r < 0 := by omega
      go_wp2
      go_ret
      refine ⟨⟨_, rfl, ?_⟩, hbw⟩
      have h1 := HU.out
      obtain ⟨k', rfl⟩ : ∃ k', k = k' + 1 := ⟨k - 1, by omega⟩
      rw [clsT, if_pos hrn, List.append_nil] at h1
      rw [app_data', h1, HALL.out]
end Go.Proofs.YtndhbdbfjkmloaaDoor
namespace Go.Proofs.YtndhbdbfjkmloaaDoor
set_option maxRecDepth 100000
open Go.Shelf
def sh_lays156_ren : Go.Shelf.Ren := ⟨fun | 156 => 59 | 165 => 88 | 166 => 89 | 169 => 90 | 240 => 113 | 241 => 114 | 276 => 132 | 277 => 133 | n => n, fun | 31 => 74 | 9 => 9 | 3 => 3 | 4 => 4 | 0 => 0 | 20 => 20 | 72 => 160 | 76 => 164 | 70 => 157 | 37 => 158 | 75 => 163 | 127 => 183 | 164 => 195 | 5 => 5 | 80 => 166 | n => n, fun | n => n⟩
theorem sh_lays156 : Go.Proofs.Lays.n156 Tryd.prog sh_lays156_ren := {
  mixed := by kernel_rfl
  f156 := Tryd.func59.trans (congrArg some (by kernel_rfl))
  f165 := Tryd.func88.trans (congrArg some (by kernel_rfl))
  f166 := Tryd.func89.trans (congrArg some (by kernel_rfl))
  f169 := Tryd.func90.trans (congrArg some (by kernel_rfl))
  f240 := Tryd.func113.trans (congrArg some (by kernel_rfl))
  f241 := Tryd.func114.trans (congrArg some (by kernel_rfl))
  f276 := Tryd.func132.trans (congrArg some (by kernel_rfl))
  f277 := Tryd.func133.trans (congrArg some (by kernel_rfl))
  t0 := Tryd.underlying0
  a0 := Tryd.isAgg0
  z0 := Tryd.sizeOf0
  v0 := Tryd.zeroValue0
  t3 := Tryd.underlying3
  a3 := Tryd.isAgg3
  z3 := Tryd.sizeOf3
  v3 := Tryd.zeroValue3
  t4 := Tryd.underlying4
  a4 := Tryd.isAgg4
  z4 := Tryd.sizeOf4
  v4 := Tryd.zeroValue4
  t9 := Tryd.underlying9
  a9 := Tryd.isAgg9
  z9 := Tryd.sizeOf9
  v9 := Tryd.zeroValue9
  t20 := Tryd.underlying20
  a20 := Tryd.isAgg20
  z20 := Tryd.sizeOf20
  v20 := Tryd.zeroValue20
  t31 := Tryd.underlying74
  a31 := Tryd.isAgg74
  z31 := Tryd.sizeOf74
  v31 := Tryd.zeroValue74
  t37 := Tryd.underlying158
  a37 := Tryd.isAgg158
  z37 := Tryd.sizeOf158
  v37 := Tryd.zeroValue158
  t70 := Tryd.underlying157
  a70 := Tryd.isAgg157
  z70 := Tryd.sizeOf157
  v70 := Tryd.zeroValue157
  t72 := Tryd.underlying160
  a72 := Tryd.isAgg160
  z72 := Tryd.sizeOf160
  v72 := Tryd.zeroValue160
  t75 := Tryd.underlying163
  a75 := Tryd.isAgg163
  z75 := Tryd.sizeOf163
  v75 := Tryd.zeroValue163
  t76 := Tryd.underlying164
  a76 := Tryd.isAgg164
  z76 := Tryd.sizeOf164
  v76 := Tryd.zeroValue164
  t127 := Tryd.underlying183
  a127 := Tryd.isAgg183
  z127 := Tryd.sizeOf183
  v127 := Tryd.zeroValue183
  t164 := Tryd.underlying195
  a164 := Tryd.isAgg195
  z164 := Tryd.sizeOf195
  v164 := Tryd.zeroValue195 }
theorem sh_Builder_Extra_156 : Builder.Extra Tryd.prog sh_lays156_ren := {
  sizeBuilder := by kernel_rfl
  liesBuilder := by kernel_rfl
  t5 := Tryd.underlying5
  a5 := Tryd.isAgg5
  z5 := Tryd.sizeOf5
  v5 := Tryd.zeroValue5
  infoByte := by kernel_rfl
  cellsByte := by kernel_rfl
  sizeByte := by kernel_rfl
  neB5 := by decide }
open Go.RowKit in
theorem sh_strings_Join (bk o c : Nat) (xs : List ByteArray) (sep : ByteArray) (w : World) (hcells : ∀ (j : Nat) x, xs[j]? = some x -> w.cell? ⟨bk, o + j, none⟩ = some (.string x)) (hbk : bk < w.heap.size) (hN : xs.length <= 140737488355328) (hcap : xs.length <= c) (hlen : (Lib.join (xs.map (·.data.toList)) sep.data.toList).length <= 140737488355328) :
    Calls Tryd.prog 59 #[.slice (some ⟨bk, o, none⟩) xs.length c, .string sep] w fun e w' => e = .returned (.string ⟨(Lib.join (xs.map (·.data.toList)) sep.data.toList).toArray⟩) /\ Below w.heap.size w w' := Any.strings_Join sh_lays156 sh_Builder_Extra_156 bk o c xs sep w hcells hbk hN hcap hlen
end Go.Proofs.YtndhbdbfjkmloaaDoor
namespace Go.Proofs.YtndhbdbfjkmloaaDoor
set_option maxRecDepth 100000
open Go.RowKit
theorem level_any (k a b c d : Int) (t : ByteArray) (A : Option Addr) (n cp : Nat) (w : World) :
    Calls Tryd.prog 87 #[.agg #[.int .i64 k, .int .u64 a, .int .u64 b, .int .u64 c, .int .u64 d, .string t, .slice A n cp]] w fun e w' => e = .returned (.int .i64 (lvl k : Nat)) /\ Below w.heap.size w w' := by
  by_cases h : k = 6 \/ k = 5 \/ k = 10 \/ k = 11 \/ k = 7 \/ k = 8 \/ k = 9
  · rcases h with rfl | rfl | rfl | rfl | rfl | rfl | rfl
    all_goals
      go_enter Tryd.func87, Tryd.ntmps87
      go_wp2
      go_ret
      exact ⟨rfl, bl⟩
  · have h1 : (k == 6) = false := by rw [beq_eq_false_iff_ne]; omega
    have h2 : (k == 5) = false := by rw [beq_eq_false_iff_ne]; omega
    have h3 : (k == 10) = false := by rw [beq_eq_false_iff_ne]; omega
    have h4 : (k == 11) = false := by rw [beq_eq_false_iff_ne]; omega
    have h5 : (k == 7) = false := by rw [beq_eq_false_iff_ne]; omega
    have h6 : (k == 8) = false := by rw [beq_eq_false_iff_ne]; omega
    have h7 : (k == 9) = false := by rw [beq_eq_false_iff_ne]; omega
    have hl : lvl k = 5 := by unfold lvl; rw [if_neg (by omega), if_neg (by omega), if_neg (by omega), if_neg (by omega)]
    rw [hl]
    go_enter Tryd.func87, Tryd.ntmps87
    go_wp2
    go_ret
    exact ⟨rfl, bl⟩
theorem brk_len (e : Ex) (least : Nat) (s : List UInt8) : (brk e least s).length <= s.length + 2 := by
  unfold brk
  split <;> simp
theorem txL_len (least : Nat) : ∀ ks : List Ex, (txL least ks).length = ks.length
  | [] => rfl
  | e :: ks => by rw [txL, List.length_cons, List.length_cons, txL_len least ks]
theorem lens_txL (least : Nat) : ∀ ks : List Ex, (∀ e ∈ ks, (txE e).length + 6 <= 3000 * nodes e) -> Lib.lens (txL least ks) + 3 * ks.length <= 3000 * nodesAll ks
  | [], _ => by simp [txL, Lib.lens, nodesAll]
  | e :: ks, h => by
    have h1 := h e (.head _)
    have h2 := lens_txL least ks fun x hx => h x (.tail _ hx)
    have h3 := brk_len e least (txE e)
    rw [txL, nodesAll]
    simp only [Lib.lens, List.map_cons, List.sum_cons, List.length_cons] at h2 ⊢
    omega
theorem join_txL (least : Nat) (sep : List UInt8) (hs : sep.length <= 3) (ks : List Ex) (h : ∀ e ∈ ks, (txE e).length + 6 <= 3000 * nodes e) : (Lib.join (txL least ks) sep).length <= 3000 * nodesAll ks := by
  cases ks with
  | nil => simp [txL, Lib.join_nil]
  | cons e ks =>
    have h1 := lens_txL least (e :: ks) h
    rw [txL] at h1 ⊢
    rw [Lib.join_length]
    have := txL_len least ks
    have h2 : sep.length * ks.length <= 3 * ks.length := Nat.mul_le_mul_right _ hs
    have h3 : ks.length * sep.length <= 3 * ks.length := by rw [Nat.mul_comm]; exact h2
    simp only [List.length_cons, txL_len] at h1 ⊢
    omega
theorem flat_len (least : Nat) (e : Ex) (h : (txE e).length + 6 <= 3000 * nodes e) : (txL least [e]).flatten.length <= 3000 * nodesAll [e] := by
  have := brk_len e least (txE e)
  rw [txL, txL, flat_one]
  simp only [nodesAll]
  omega
theorem clsAll_len (l : List Nat) : (clsAll l).length <= 2400 := by
  have := clsT_len l 257 (fstB l 0)
  unfold clsAll
  simp only [List.cons_append, List.length_cons, List.length_append, List.length_nil]
  omega
theorem name_lenX {t : List UInt8} (h : nameB t = true) : t.length <= 8 := by
  unfold nameB at h
  simp only [Bool.and_eq_true, decide_eq_true_iff] at h
  exact h.1.2
theorem tx_len (e : Ex) : Rtx e -> (txE e).length + 6 <= 3000 * nodes e := by
  induction e using Ex.ind with
  | h k a b c d t ks ih =>
    intro hR
    cases hR with
    | mk _ _ _ _ _ _ _ hf ha hb hc hd hks =>
    have IH : ∀ e ∈ ks, (txE e).length + 6 <= 3000 * nodes e := fun e he => ih e he (hks e he)
    have hj := fun least sep hs => join_txL least sep hs ks IH
    rw [nodes]
    rcases fit_what hf with ⟨rfl, _⟩ | ⟨rfl, _⟩ | ⟨rfl, ht, _⟩ | ⟨rfl, ht, _⟩ | ⟨hk, _⟩ | ⟨hk, ht, _, hn⟩
    · rw [txE, if_pos rfl]
      simp only [List.length_cons, List.length_nil]
      omega
    · rw [txE, if_neg (by decide), if_pos rfl]
      split
      · simp only [List.length_cons, List.length_nil]
        omega
      · have := clsAll_len [a.toNat, b.toNat, c.toNat, d.toNat]
        omega
    · rw [txE, if_neg (by decide), if_neg (by decide), if_pos rfl]
      have := encAll_len false t.data.toList
      unfold litL
      simp only [List.length_cons, List.length_append, List.length_nil]
      have := ht.2
      omega
    · rw [txE, if_neg (by decide), if_neg (by decide), if_neg (by decide), if_pos rfl]
      have := name_lenX ht
      omega
    · rcases hk with rfl | rfl
      · have := hj 3 [32] (by decide)
        rw [txE]
        simp only [Int.reduceEq, if_false]
        omega
      · have := hj 2 [32, 47, 32] (by decide)
        rw [txE]
        simp only [Int.reduceEq, if_false, if_true]
        omega
    · obtain ⟨e0, rfl⟩ : ∃ e0, ks = [e0] := by
        match ks, hn with
        | [e0], _ => exact ⟨e0, rfl⟩
      have h3 := flat_len 3 e0 (IH e0 (.head _))
      have h4 := flat_len 4 e0 (IH e0 (.head _))
      rcases (show k = 7 \/ k = 8 \/ k = 9 \/ k = 10 \/ k = 11 by omega) with rfl | rfl | rfl | rfl | rfl
      all_goals
        rw [txE]
        simp only [Int.reduceEq, if_false, if_true, List.length_cons, List.length_append, List.length_nil]
        omega
theorem rt_ofX {e : Ex} : WfE e -> checkE e = 0 -> Rtx e := by
  induction e using Ex.ind with
  | h k a b c d t ks ih =>
    intro hw hc
    cases hw with
    | mk _ _ _ _ _ _ _ h1 h2 h3 h4 h5 hks =>
    obtain ⟨_, hp, _⟩ := parts_ok hc
    refine .mk _ _ _ _ _ _ _ ?_ h2 h3 h4 h5 fun e he => ih e he (hks e he) ?_
    · unfold checkE at hc
      rw [lookN] at hc
      split at hc
      · omega
      · split at hc
        · omega
        · split at hc
          · omega
          · rename_i hf
            exact Bool.not_eq_false _ ▸ hf
    · have := hp e he
      by_cases h0 : checkE e = 0
      · exact h0
      · rw [size_bad h0] at this
        injection this with e1 e2
theorem nodes_leX {e : Ex} (h : checkE e = 0) : nodes e <= 60 := by
  cases e with
  | mk k a b c d t ks =>
    have h1 := look_ok _ 0 1 h 0 1 (Nat.le_refl _) (Nat.le_refl _)
    have h2 := lookN_le (.mk k a b c d t ks) 0 1 (by omega)
    have h3 := h2.2 h
    rw [h1] at h3
    simpa using h3
def txR (r : Rl) : List UInt8 := r.1.data.toList ++ (32 :: 60 :: 45 :: 32 :: (txE r.2 ++ [10]))
def txG : List Rl -> List UInt8
  | [] => []
  | r :: rs => txR r ++ txG rs
def nmL (l : List UInt8) : ByteArray := (tkV (tokL l)).t
def nxL (l : List UInt8) : List UInt8 := goL l (tkn (tokL l))
inductive Gs where
  | ok (g : List Rl)
  | no (l : List UInt8)
def grJ : Nat -> List Rl -> List UInt8 -> Option Gs
  | 0, _, _ => none
  | f + 1, acc, l =>
    if namesL true l = false then some (.no l)
    else if (tokL (nxL l)).isBad = true then some (.no (nxL l))
    else if (tokL (nxL (nxL l))).isBad = true then some (.no (nxL (nxL l)))
    else match rdJ true f .alt (nxL (nxL l)) with
      | none => none
      | some (.no l3) => some (.no l3)
      | some (.ok b l3) => if (tokL l3).isFin = true then some (.ok (acc ++ [(nmL l, b)])) else grJ f (acc ++ [(nmL l, b)]) l3
theorem grJ_succ : ∀ (f : Nat) (acc : List Rl) (l : List UInt8) (R : Gs), grJ f acc l = some R -> grJ (f + 1) acc l = some R
  | 0, _, _, _, h => by cases h
  | f + 1, acc, l, R, h => by
    rw [grJ] at h ⊢
    split at h
    · rw [if_pos (by assumption)]; exact h
    · rw [if_neg (by assumption)]
      split at h
      · rw [if_pos (by assumption)]; exact h
      · rw [if_neg (by assumption)]
        split at h
        · rw [if_pos (by assumption)]; exact h
        · rw [if_neg (by assumption)]
          cases hx : rdJ true f .alt (nxL (nxL l)) with
          | none => rw [hx] at h; cases h
          | some R1 =>
            rw [hx] at h
            rw [rdJ_succ true f _ _ _ hx]
            cases R1 with
            | no l3 => exact h
            | ok b l3 =>
              simp only at h ⊢
              split at h
              · rw [if_pos (by assumption)]; exact h
              · rw [if_neg (by assumption)]; exact grJ_succ f _ _ _ h
theorem grJ_le {f f' : Nat} (hf : f <= f') {acc : List Rl} {l : List UInt8} {R : Gs} (h : grJ f acc l = some R) : grJ f' acc l = some R := by
  induction hf with
  | refl => exact h
  | step _ ih => exact grJ_succ _ _ _ _ ih
theorem nx_le (l : List UInt8) : (nxL l).length <= l.length := by
  unfold nxL goL
  have := skip_le false (l.drop (tkn (tokL l)))
  rw [List.length_drop] at this
  omega
theorem grJ_ends : ∀ (n : Nat) (acc : List Rl) (l : List UInt8), l.length <= n -> ∃ f R, grJ f acc l = some R
  | n, acc, l, hn => by
    cases h1 : namesL true l with
    | false => exact ⟨1, _, by rw [grJ, if_pos h1]⟩
    | true =>
      cases h2 : (tokL (nxL l)).isBad with
      | true => exact ⟨1, _, by rw [grJ, if_neg (by rw [h1]; decide), if_pos h2]⟩
      | false =>
        cases h3 : (tokL (nxL (nxL l))).isBad with
        | true => exact ⟨1, _, by rw [grJ, if_neg (by rw [h1]; decide), if_neg (by rw [h2]; decide), if_pos h3]⟩
        | false =>
          obtain ⟨R1, ⟨f1, hf1⟩, hl⟩ := rd_ends true .alt (nxL (nxL l))
          cases R1 with
          | no l3 => exact ⟨f1 + 1, _, by rw [grJ, if_neg (by rw [h1]; decide), if_neg (by rw [h2]; decide), if_neg (by rw [h3]; decide), hf1]⟩
          | ok b l3 =>
            cases h4 : (tokL l3).isFin with
            | true => exact ⟨f1 + 1, _, by rw [grJ, if_neg (by rw [h1]; decide), if_neg (by rw [h2]; decide), if_neg (by rw [h3]; decide), hf1]; exact if_pos h4⟩
            | false =>
              have h5 := hl b l3 rfl
              have h6 := nx_le l
              have h7 := nx_le (nxL l)
              simp only [eatJ] at h5
              cases n with
              | zero => omega
              | succ n =>
                obtain ⟨f2, R, hf2⟩ := grJ_ends n (acc ++ [(nmL l, b)]) l3 (by omega)
                refine ⟨max f1 f2 + 1, R, ?_⟩
                rw [grJ, if_neg (by rw [h1]; decide), if_neg (by rw [h2]; decide), if_neg (by rw [h3]; decide), rdJ_le (Nat.le_max_left f1 f2) hf1]
                simp only [h4, Bool.false_eq_true, if_false]
                exact grJ_le (Nat.le_max_right f1 f2) hf2
def WholeG (s : List UInt8) (R : Gs) : Prop := ((tokL (skipL false s)).isBad = true /\ R = .no (skipL false s)) \/ ((tokL (skipL false s)).isBad = false /\ ∃ f, grJ f [] (skipL false s) = some R)
theorem WholeG.uniq {s : List UInt8} {R R' : Gs} (h : WholeG s R) (h' : WholeG s R') : R = R' := by
  rcases h with ⟨h1, rfl⟩ | ⟨h1, f, h2⟩
  · rcases h' with ⟨_, rfl⟩ | ⟨h3, _⟩
    · rfl
    · rw [h1] at h3; cases h3
  · rcases h' with ⟨h3, _⟩ | ⟨_, f', h4⟩
    · rw [h1] at h3; cases h3
    · have a := grJ_le (Nat.le_max_left f f') h2
      have b := grJ_le (Nat.le_max_right f f') h4
      rw [a] at b
      exact Option.some.inj b
def RtG (g : List Rl) : Prop := ∀ r ∈ g, nameB r.1.data.toList = true /\ Rtx r.2
theorem chk1_rt {G : List Rl} : ∀ (g : List Rl) (i all : Nat), (chk1 G g i all).1 = 0 -> ∀ r ∈ g, nameB r.1.data.toList = true /\ checkE r.2 = 0
  | [], _, _, _, r, hr => by cases hr
  | r0 :: rs, i, all, h, r, hr => by
    rw [chk1] at h
    split at h
    · exact absurd h (by show (6 : Int) ≠ 0; decide)
    · rename_i h1
      split at h
      · exact absurd h (by show (7 : Int) ≠ 0; decide)
      · split at h
        · rename_i h3
          exact absurd h h3
        · rename_i h3
          rcases List.mem_cons.1 hr with rfl | hr
          · exact ⟨by simpa using h1, by simpa using h3⟩
          · exact chk1_rt rs _ _ h r hr
theorem rtG_of {g : List Rl} (hw : ∀ r ∈ g, WfE r.2) (hc : checkG g = 0) : RtG g /\ g ≠ [] /\ g.length <= 10 /\ ∀ r ∈ g, checkE r.2 = 0 := by
  unfold checkG at hc
  split at hc
  · exact absurd hc (by decide)
  · rename_i h0
    split at hc
    · exact absurd hc (by decide)
    · rename_i h10
      split at hc
      · rename_i h1
        exact absurd hc h1
      · rename_i h1
        have h2 := chk1_rt (G := g) g 0 0 (by simpa using h1)
        exact ⟨fun r hr => ⟨(h2 r hr).1, rt_ofX (hw r hr) (h2 r hr).2⟩, fun e => h0 (by rw [e]; rfl), by omega, fun r hr => (h2 r hr).2⟩
theorem sep_name (r : List UInt8) : Sep (32 :: r) := sep_32 r
theorem goL_app (t r : List UInt8) : goL (t ++ r) t.length = skipL false r := go_left t r
theorem rule_head {r : Rl} (hn : nameB r.1.data.toList = true) (x : List UInt8) :
    tokL (r.1.data.toList ++ (32 :: 60 :: 45 :: 32 :: x)) = .nd (eRef r.1.data.toList) r.1.data.toList.length /\ Solid (r.1.data.toList ++ (32 :: 60 :: 45 :: 32 :: x)) /\ namesL true (r.1.data.toList ++ (32 :: 60 :: 45 :: 32 :: x)) = true /\
      nmL (r.1.data.toList ++ (32 :: 60 :: 45 :: 32 :: x)) = r.1 /\ nxL (r.1.data.toList ++ (32 :: 60 :: 45 :: 32 :: x)) = 60 :: 45 :: 32 :: x := by
  obtain ⟨h1, h2⟩ := tok_name hn (sep_name (60 :: 45 :: 32 :: x))
  have h3 : goL (r.1.data.toList ++ (32 :: 60 :: 45 :: 32 :: x)) r.1.data.toList.length = 60 :: 45 :: 32 :: x := by
    rw [goL_app, skip_32]
    exact solid_cons (by decide)
  refine ⟨h1, h2, ?_, ?_, ?_⟩
  · unfold namesL
    rw [h1]
    simp only [h3]
    rfl
  · unfold nmL
    rw [h1]
    exact text_back r.1
  · unfold nxL tkn
    rw [h1]
    exact h3
theorem arrow_next (x : List UInt8) : tokL (60 :: 45 :: 32 :: x) = .sg 60 2 /\ nxL (60 :: 45 :: 32 :: x) = skipL false x := by
  have h := tok_lt (32 :: x)
  refine ⟨h, ?_⟩
  unfold nxL tkn
  rw [h]
  show skipL false ((60 :: 45 :: 32 :: x).drop 2) = _
  exact skip_32 x
theorem tail_ok {g : List Rl} (hg : RtG g) : Fol (10 :: txG g) /\ skipL false (10 :: txG g) = txG g /\ NoPost (txG g) /\ begL true (txG g) = false /\ NoSl (txG g) /\ ((tokL (txG g)).isFin = true ↔ g = []) := by
  have h10 : ∀ l, skipL false (10 :: l) = skipL false l := fun l => by rw [skipL, if_pos (by decide)]
  cases g with
  | nil => exact ⟨⟨(by decide : isLD 10 = false), rfl, by decide⟩, rfl, fun c n h => (by cases h), rfl, fun c n h => (by cases h), ⟨fun _ => rfl, fun _ => rfl⟩⟩
  | cons r rs =>
    obtain ⟨hn, _⟩ := hg r (.head _)
    have e : txG (r :: rs) = r.1.data.toList ++ (32 :: 60 :: 45 :: 32 :: (txE r.2 ++ 10 :: txG rs)) := by
      show txR r ++ txG rs = _
      unfold txR
      simp
    obtain ⟨h1, h2, h3, h4, h5⟩ := rule_head hn (txE r.2 ++ 10 :: txG rs)
    rw [<- e] at h1 h2 h3
    have hs : skipL false (10 :: txG (r :: rs)) = txG (r :: rs) := by rw [h10]; exact h2
    have hbeg : begL true (txG (r :: rs)) = false := by
      unfold begL
      rw [h1]
      simp only [h3]
      rfl
    have htk : (txG (r :: rs)).take 2 ≠ [60, 45] := by
      intro ht
      obtain ⟨c, t', hc, hl, _⟩ := name_parts hn
      rw [e, hc, List.cons_append] at ht
      have hc60 : c = 60 := by
        cases h : (t' ++ (32 :: 60 :: 45 :: 32 :: (txE r.2 ++ 10 :: txG rs))) with
        | nil => rw [h] at ht; simp at ht
        | cons y ys => rw [h] at ht; simp at ht; exact ht.1
      rw [hc60] at hl
      exact absurd hl (by decide)
    refine ⟨⟨(by decide : isLD 10 = false), by rw [hs, h1]; rfl, by rw [hs]; exact htk⟩, hs, fun c n h => (by rw [h1] at h; cases h), hbeg, fun c n h => (by rw [h1] at h; cases h), ?_⟩
    rw [h1]
    exact ⟨fun h => (by cases h), fun h => (by cases h)⟩
theorem gr_back : ∀ (g : List Rl), RtG g -> g ≠ [] -> ∀ acc, ∃ f, grJ f acc (txG g) = some (.ok (acc ++ g))
  | [], _, h, _ => absurd rfl h
  | r :: rs, hg, _, acc => by
    obtain ⟨hn, hR⟩ := hg r (.head _)
    have hrs : RtG rs := fun x hx => hg x (.tail _ hx)
    have e : txG (r :: rs) = r.1.data.toList ++ (32 :: 60 :: 45 :: 32 :: (txE r.2 ++ 10 :: txG rs)) := by
      show txR r ++ txG rs = _
      unfold txR
      simp
    obtain ⟨h1, h2, h3, h4, h5⟩ := rule_head hn (txE r.2 ++ 10 :: txG rs)
    obtain ⟨t1, t2, t3, t4, t5, t6⟩ := tail_ok hrs
    obtain ⟨a1, a2⟩ := arrow_next (txE r.2 ++ 10 :: txG rs)
    have H := rdb true r.2 hR
    obtain ⟨s1, s2⟩ := H.hd _ t1
    have hs1 : skipL false (txE r.2 ++ 10 :: txG rs) = txE r.2 ++ 10 :: txG rs := s1
    rw [hs1] at a2
    have hrd := H.e (10 :: txG rs) t1 (by rw [t2]; exact t3) (by rw [t2]; exact t4) (by rw [t2]; exact t5)
    rw [t2] at hrd
    obtain ⟨f1, hf1⟩ := hrd
    by_cases hrn : rs = []
    · subst hrn
      refine ⟨f1 + 1, ?_⟩
      rw [e, grJ, if_neg (by rw [h3]; decide), h5, if_neg (by rw [a1]; decide), a2, if_neg (by rw [(beg_what s2).1]; decide), hf1, h4]
      exact if_pos (t6.2 rfl)
    · obtain ⟨f2, hf2⟩ := gr_back rs hrs hrn (acc ++ [r])
      have hnf : ¬ (tokL (txG rs)).isFin = true := fun h => hrn (t6.1 h)
      refine ⟨max f1 f2 + 1, ?_⟩
      rw [e, grJ, if_neg (by rw [h3]; decide), h5, if_neg (by rw [a1]; decide), a2, if_neg (by rw [(beg_what s2).1]; decide), rdJ_le (Nat.le_max_left f1 f2) hf1, h4]
      simp only [hnf, Bool.false_eq_true, if_false]
      rw [grJ_le (Nat.le_max_right f1 f2) hf2, List.append_assoc]
      rfl
theorem wholeG_back {g : List Rl} (hg : RtG g) (hne : g ≠ []) : WholeG (txG g) (.ok g) := by
  obtain ⟨f, hf⟩ := gr_back g hg hne []
  cases g with
  | nil => exact absurd rfl hne
  | cons r rs =>
    obtain ⟨hn, _⟩ := hg r (.head _)
    have e : txG (r :: rs) = r.1.data.toList ++ (32 :: 60 :: 45 :: 32 :: (txE r.2 ++ 10 :: txG rs)) := by
      show txR r ++ txG rs = _
      unfold txR
      simp
    obtain ⟨h1, h2, _⟩ := rule_head hn (txE r.2 ++ 10 :: txG rs)
    rw [<- e] at h1 h2
    have hs : skipL false (txG (r :: rs)) = txG (r :: rs) := h2
    unfold WholeG
    rw [hs, h1]
    exact .inr ⟨rfl, f, by rw [hf]; rfl⟩
inductive ReadGR (s : List UInt8) : Option (List Rl) -> Nat -> Int -> Prop where
  | large : 2000 < s.length -> ReadGR s none 0 2
  | syn (l : List UInt8) : s.length <= 2000 -> WholeG s (.no l) -> ReadGR s none (s.length - l.length) 4
  | bad (g : List Rl) : s.length <= 2000 -> WholeG s (.ok g) -> checkG g ≠ 0 -> ReadGR s none 0 (checkG g)
  | ok (g : List Rl) : s.length <= 2000 -> WholeG s (.ok g) -> checkG g = 0 -> ReadGR s (some g) 0 0
theorem ReadGR.uniq {s : List UInt8} {e e' : Option (List Rl)} {a a' : Nat} {x x' : Int} (h : ReadGR s e a x) (h' : ReadGR s e' a' x') : e = e' /\ a = a' /\ x = x' := by
  cases h with
  | large h1 =>
    cases h' with
    | large _ => exact ⟨rfl, rfl, rfl⟩
    | syn _ h2 => omega
    | bad _ h2 => omega
    | ok _ h2 => omega
  | syn l h1 h2 =>
    cases h' with
    | large h3 => omega
    | syn l' _ h3 => have := h2.uniq h3; injection this with this; rw [this]; exact ⟨rfl, rfl, rfl⟩
    | bad _ _ h3 => have := h2.uniq h3; cases this
    | ok _ _ h3 => have := h2.uniq h3; cases this
  | bad e h1 h2 hc =>
    cases h' with
    | large h3 => omega
    | syn l' _ h3 => have := h2.uniq h3; cases this
    | bad _ _ h3 => have := h2.uniq h3; injection this with e1; rw [e1]; exact ⟨rfl, rfl, rfl⟩
    | ok _ _ h3 hc' => have := h2.uniq h3; injection this with e1; rw [e1] at hc; exact absurd hc' hc
  | ok e h1 h2 hc =>
    cases h' with
    | large h3 => omega
    | syn l' _ h3 => have := h2.uniq h3; cases this
    | bad _ _ h3 hc' => have := h2.uniq h3; injection this with e1; rw [e1] at hc; exact absurd hc hc'
    | ok _ _ h3 => have := h2.uniq h3; injection this with e1; rw [e1]; exact ⟨rfl, rfl, rfl⟩
theorem readG_back {g : List Rl} (hw : ∀ r ∈ g, WfE r.2) (hc : checkG g = 0) (hl : (txG g).length <= 2000) : ReadGR (txG g) (some g) 0 0 := by
  obtain ⟨h1, h2, _⟩ := rtG_of hw hc
  exact .ok g hl (wholeG_back h1 h2) hc
end Go.Proofs.YtndhbdbfjkmloaaDoor
namespace Go.Proofs.YtndhbdbfjkmloaaDoor
set_option maxRecDepth 100000
open Go.RowKit Go.Maps
def GrF (S : Nat -> Prop) (hi : Nat) (W : World) (g : List Rl) (V : Option Addr) (c : Nat) (rows : Nat -> List Value) : Prop := ∀ X : World, (∀ p : Addr, S p.block -> X.cell? p = W.cell? p) -> GrIs X hi g V c rows
section
variable {S S' : Nat -> Prop} {hi hi' : Nat} {W W' : World} {g : List Rl} {V : Option Addr} {c : Nat} {rows : Nat -> List Value}
theorem GrF.is (h : GrF S hi W g V c rows) : GrIs W hi g V c rows := h W fun _ _ => rfl
theorem GrF.keep (h : GrF S hi W g V c rows) (hk : ∀ p : Addr, S p.block -> W'.cell? p = W.cell? p) : GrF S hi W' g V c rows := fun X hX => h X fun p hp => (hX p hp).trans (hk p hp)
theorem GrF.mono (h : GrF S hi W g V c rows) (hs : ∀ b, S b -> S' b) (hh : hi <= hi') : GrF S' hi' W g V c rows := fun X hX => (h X fun p hp => hX p (hs _ hp)).more hh
theorem GrF.nil (S : Nat -> Prop) (hi : Nat) (W : World) : GrF S hi W [] none 0 (fun _ => []) := fun _ _ => ⟨by simp, by unfold maxLen; omega, fun _ => rfl, fun h => by simp at h, fun i r h => by simp at h, fun i r h => by simp at h, fun i r ad h => by simp at h, fun i r ad h => by simp at h⟩
end
structure Rus (base : Nat) (W : World) (g : List Rl) (V : Option Addr) (c : Nat) (rows : Nat -> List Value) : Prop where
  own : W.ownsRow base 71 8 (.slice V g.length c) g.length (ruF g rows 0)
  small : ∀ r ∈ g, r.1.size <= maxLen
  body : ∀ i r, g[i]? = some r -> ExF (fun b => base <= b /\ b < W.heap.size /\ some b ≠ (Value.slice V g.length c).ownBlock) W.heap.size W r.2 (rows i)
section
variable {base : Nat} {W W' : World} {g : List Rl} {V : Option Addr} {c : Nat} {rows : Nat -> List Value}
theorem Rus.nil (base : Nat) (W : World) : Rus base W [] none 0 (fun _ => []) := ⟨World.ownsRow_nil _ _ _ _, fun _ h => (by cases h), fun i e h => by simp at h⟩
theorem Rus.below (h : Rus base W g V c rows) (hb : Below W.heap.size W W') : Rus base W' g V c rows :=
  ⟨own_below h.own hb, h.small, fun i e he => ((h.body i e he).keep (W' := W') fun _ hp => hb.cell hp.2.1).mono (fun _ hb' => ⟨hb'.1, Nat.lt_of_lt_of_le hb'.2.1 hb.size, hb'.2.2⟩) hb.size⟩
theorem Rus.far (h : Rus base W g V c rows) {k : Nat} (hk : k < base) (i : Nat) (u : Value) : Rus base (W.setCell ⟨k, i, none⟩ u) g V c rows :=
  have hs : (W.setCell ⟨k, i, none⟩ u).heap.size = W.heap.size := by simp [World.setCell]
  ⟨own_far h.own ⟨rfl, rfl, rfl, by simp [World.setCell], fun q hq hne => Below.heap_setCell W ⟨k, i, none⟩ u q (by rintro rfl; exact hne rfl)⟩ hk, h.small, fun j e he => by
    rw [hs]
    exact (h.body j e he).keep fun p hp => World.cell?_setCell_other W _ p u (by rintro rfl; have := hp.1; simp at this; omega)⟩
theorem Rus.old (h : Rus base W g V c rows) : ∀ q, (Value.slice V g.length c).ownBlock = some q -> q < W.heap.size := fun q hq => (h.own.lt q hq).2
theorem Rus.push {V' : Option Addr} {c' lo : Nat} {r : Rl} {rc : List Value} (h : Rus base W g V c rows) (hlo : base <= lo) (hold : ∀ q, (Value.slice V g.length c).ownBlock = some q -> q < lo) (hn : r.1.size <= maxLen) (hE : ExF (fun b => lo <= b /\ b < W.heap.size) W.heap.size W r.2 rc)
    (hown : W'.ownsRow base 71 8 (.slice V' (g.length + 1) c') (g.length + 1) (ruF g rows 0 ++ (.string r.1 :: rc))) (hg : W.grownBy W' (Value.slice V g.length c).ownBlock)
    (hat : (Value.slice V' (g.length + 1) c').ownBlock = (Value.slice V g.length c).ownBlock \/ (Value.slice V' (g.length + 1) c').ownBlock = some W.heap.size) :
    Rus base W' (g ++ [r]) V' c' (fun i => if i = g.length then rc else rows i) := by
  have hl : (g ++ [r]).length = g.length + 1 := by simp
  have hne : ∀ b, b < W.heap.size -> some b ≠ (Value.slice V g.length c).ownBlock -> some b ≠ (Value.slice V' (g.length + 1) c').ownBlock := fun b hb hne => by
    rcases hat with h1 | h1
    · rw [h1]; exact hne
    · rw [h1]; intro e; injection e with e; omega
  have hkeep : ∀ p : Addr, p.block < W.heap.size -> some p.block ≠ (Value.slice V g.length c).ownBlock -> W'.cell? p = W.cell? p := fun p h1 h2 => World.cell?_of_block (hg.block p.block h1 h2)
  refine ⟨?_, fun x hx => ?_, fun i x hx => ?_⟩
  · rw [hl, ruF_app, ruF_same g (fun i => if i = g.length then rc else rows i) rows 0 (fun i hi => if_neg (by omega)), ruF, ruF, List.append_nil, Nat.zero_add, if_pos rfl]
    exact hown
  · rcases List.mem_append.1 hx with hx | hx
    · exact h.small x hx
    · rw [List.mem_singleton.1 hx]; exact hn
  · rw [hl]
    by_cases hi : i < g.length
    · rw [List.getElem?_append_left hi] at hx
      rw [if_neg (by omega)]
      exact ((h.body i x hx).keep (W' := W') fun p hp => hkeep p hp.2.1 hp.2.2).mono (fun b hb => ⟨hb.1, Nat.lt_of_lt_of_le hb.2.1 hg.size, hne b hb.2.1 hb.2.2⟩) hg.size
    · have hi' : i = g.length := by have := getElem?_lt hx; simp at this; omega
      subst hi'
      simp at hx
      subst hx
      rw [if_pos rfl]
      have hx : ∀ b, lo <= b -> some b ≠ (Value.slice V g.length c).ownBlock := fun b hb e => by have := hold b e.symm; omega
      exact (hE.keep (W' := W') fun p hp => hkeep p hp.2 (hx _ hp.1)).mono (fun b hb => ⟨Nat.le_trans hlo hb.1, Nat.lt_of_lt_of_le hb.2 hg.size, hne b hb.2 (hx b hb.1)⟩) hg.size
theorem Rus.gr (h : Rus base W g V c rows) : GrF (fun b => base <= b /\ b < W.heap.size) W.heap.size W g V c rows := by
  intro X hX
  have h7 : ∀ j, j < g.length -> (rows (0 + j)).length = 7 := fun j hj => by rw [Nat.zero_add]; exact (h.body j _ (List.getElem?_eq_getElem hj)).len7
  have ho := h.own
  have hlt := ho.lt
  have hc : g.length <= c /\ c <= maxLen /\ (V = none -> c = 0) /\ (0 < g.length -> ∃ ad : Addr, V = some ad /\ ad.block < W.heap.size /\ base <= ad.block) /\ ∀ (ad : Addr), V = some ad -> ∀ j u, (ruF g rows 0)[j]? = some u -> W.cell? (ad.add j) = some u := by
    rcases ho.2 with ⟨h1, h2⟩ | ⟨g1, cap, cur, hv, h3, h4, h5, h6, _⟩
    · injection h1 with e1 e2 e3
      subst e1 e3
      exact ⟨by omega, by unfold maxLen; omega, fun _ => rfl, fun h => by omega, fun _ h => by cases h⟩
    · injection hv with e1 e2 e3
      subst e1 e3
      refine ⟨h5, h6, fun h => (by cases h), fun _ => ⟨_, rfl, (hlt g1 rfl).2, (hlt g1 rfl).1⟩, fun ad hA j u hu => ?_⟩
      injection hA with hA
      subst hA
      exact ho.cells rfl j u hu
  obtain ⟨c1, c2, c3, c4, c5⟩ := hc
  have hcell : ∀ (i : Nat) (r : Rl) (ad : Addr), g[i]? = some r -> V = some ad -> ∀ j u, (ruF g rows 0)[j]? = some u -> X.cell? (ad.add j) = some u := fun i r ad hr hA j u hu => by
    obtain ⟨ad', e1, e2, e3⟩ := c4 (by have := getElem?_lt hr; omega)
    rw [hA] at e1
    injection e1 with e1
    subst e1
    rw [hX _ (by rw [add_block]; exact ⟨e3, e2⟩)]
    exact c5 ad hA j u hu
  refine ⟨c1, c2, c3, fun h0 => by obtain ⟨ad, e1, e2, _⟩ := c4 h0; exact ⟨ad, e1, e2⟩, fun i r hr => h.small r (List.mem_of_getElem? hr), fun i r hr => h.body i r hr X fun p hp => hX p ⟨hp.1, hp.2.1⟩, fun i r ad hr hA => ?_, fun i r ad hr hA j u hu => ?_⟩
  · exact hcell i r ad hr hA _ _ (ruF_get g rows 0 i r h7 hr).1
  · rw [add_add']
    exact hcell i r ad hr hA _ _ ((ruF_get g rows 0 i r h7 hr).2 j u (by rw [Nat.zero_add]; exact hu))
end
structure RuC (ob kb : Nat) (o k : Array Value) (W : World) : Prop where
  out : Blk W ob 39 o
  rule : Blk W kb 71 k
theorem RuC.below {ob kb : Nat} {o k : Array Value} {W W' : World} (h : RuC ob kb o k W) (hb : Below W.heap.size W W') : RuC ob kb o k W' := ⟨h.out.below hb h.out.lt, h.rule.below hb h.rule.lt⟩
theorem RuC.grown {ob kb : Nat} {o k : Array Value} {W W' : World} {r : Option Nat} (h : RuC ob kb o k W) (hg : W.grownBy W' r) (h1 : some ob ≠ r) (h2 : some kb ≠ r) : RuC ob kb o k W' := ⟨h.out.grown hg h1, h.rule.grown hg h2⟩
end Go.Proofs.YtndhbdbfjkmloaaDoor
