/- What set.Has and set.Bytes answer. -/
import Derived.Test.YtkoenjnjkapfmaaDoorSetI
import Derived.Test.YtkoenjnjkapfmaaDoorBytes
namespace Go.Proofs.YtkoenjnjkapfmaaDoor
open Go.RowKit

theorem string_own {w : World} {base n c : Nat} {V : Option Addr} {l : List UInt8} (h : w.ownsRow base 5 1 (.slice V n c) n (u8s l)) :
    (convert 36 9 (.slice V n c)).run Tryd.prog w = .ok (.string ⟨l.toArray⟩) w := by
  have hl : l.length = n := by have := h.1; rw [u8s_length] at this; omega
  rcases h.2 with ⟨h1, rfl⟩ | ⟨g', cap, cur, hv, _, hh, _, _, _, ht⟩
  · simp only [Value.slice.injEq] at h1
    obtain ⟨rfl, _, rfl⟩ := h1
    have : l = [] := List.eq_nil_of_length_eq_zero hl
    subst this
    have hu := Tryd.underlying9
    have := run_convert_bytes_string (P := Tryd.prog) w 36 9 5 none 0 0 Tryd.underlying36 Tryd.underlying5 hu
    rw [this]
    rfl
  · simp only [Value.slice.injEq] at hv
    obtain ⟨rfl, _, _⟩ := hv
    rw [Nat.mul_one] at ht
    exact string_of Tryd.underlying36 Tryd.underlying5 Tryd.underlying9 (BlkZ.of hh) hl ht

theorem u8_info' : (Tryd.prog.info? 5).map (fun i => (i.zero, i.size, i.bytes)) = some (some (.int .u8 0), 1, 1) := by kernel_rfl

theorem and63_u8 : ∀ b : Fin 256, bits .and .u8 ((b : Nat) : Int) 63 = (((b : Nat) % 64 : Nat) : Int) := by decide +kernel
set_option maxRecDepth 100000 in
theorem has_any (l : List Nat) (hl : Words l) (b : Nat) (hb : b < 256) (w : World) :
    Calls Tryd.prog 9 #[vals l, .int .u8 b] w fun e w' => e = .returned (.bool (hasN l b)) ∧ Below w.heap.size w w' := by
  have hc : ∀ W : World, Hid (Blk W w.heap.size 24 #[.int .u64 (l.getD 0 0 : Nat), .int .u64 (l.getD 1 0 : Nat), .int .u64 (l.getD 2 0 : Nat), .int .u64 (l.getD 3 0 : Nat)] → W.cell? ⟨w.heap.size, b / 64, none⟩ = some (.int .u64 (l.getD (b / 64) 0 : Nat))) := fun W hb => by
    rcases (by omega : b / 64 = 0 ∨ b / 64 = 1 ∨ b / 64 = 2 ∨ b / 64 = 3) with h | h | h | h <;> rw [h]
    · exact hb.cell 0
    · exact hb.cell 1
    · exact hb.cell 2
    · exact hb.cell 3
  have hc0 := (hc (w.alloc (.cells #[.int .u64 (l.getD 0 0 : Nat), .int .u64 (l.getD 1 0 : Nat), .int .u64 (l.getD 2 0 : Nat), .int .u64 (l.getD 3 0 : Nat)] 24))).out (blk_at rfl)
  clear hc
  have hx := hl (b / 64)
  clear hl
  unfold vals
  have hand := and63_u8 ⟨b, hb⟩
  simp only at hand
  obtain ⟨q, hq⟩ : ∃ q : Nat, b / 64 = q := ⟨_, rfl⟩
  have hqi : (b : Int) / 64 = (q : Int) := by omega
  have hq0 : (0 : Int) ≤ (q : Int) := by omega
  have hq4 : (q : Int) < 4 := by omega
  obtain ⟨k, hk⟩ : ∃ k : Nat, b % 64 = k := ⟨_, rfl⟩
  rw [hk] at hand
  have HH : Hid (hasN l b = decide ((l.getD (b / 64) 0) / 2 ^ k % 2 = 1)) := by
    show hasN l b = _
    rw [hasN, Nat.testBit_eq_decide_div_mod_eq, hk]
  have hk64 : k < 64 := by omega
  have hk0 : (0 : Int) ≤ (k : Int) := by omega
  rw [hq] at hc0 hx HH
  generalize l.getD q 0 = x at hc0 hx HH
  have hbit : bits .and .u64 ((x : Int) / 2 ^ k) 1 = ((x / 2 ^ k % 2 : Nat) : Int) := by
    have h1 : x / 2 ^ k ≤ x := Nat.div_le_self _ _
    have := u64_and_nat (x / 2 ^ k) 1 (by omega) (by omega)
    rw [Nat.and_one_is_mod, show ((x / 2 ^ k : Nat) : Int) = (x : Int) / 2 ^ k from by simp] at this
    exact this
  rw [HH.out]
  generalize x / 2 ^ k % 2 = y at hbit ⊢
  generalize l.getD 0 0 = e0 at hc0 ⊢
  generalize l.getD 1 0 = e1 at hc0 ⊢
  generalize l.getD 2 0 = e2 at hc0 ⊢
  generalize l.getD 3 0 = e3 at hc0 ⊢
  clear HH hq hk
  go_enter Tryd.func9, Tryd.ntmps9
  go_wp2
  go_ret
  refine ⟨?_, (by repeat (first | exact Below.refl _ _ | assumption | refine Below.drew ?_ | refine below_drewN ?_ _ | refine Below.alloc ?_ (by first | omega | (simp; omega) | simp) _ | refine Below.setCell ?_ (by first | omega | (simp; omega) | simp) _))⟩
  show Ending.returned (.bool ((y : Int) == 1)) = _
  rw [show ((y : Int) == 1) = decide (y = 1) from by rw [Bool.eq_iff_iff]; simp; omega]

set_option maxRecDepth 100000 in
set_option maxHeartbeats 1000000 in
theorem bytes_any (l : List Nat) (hl : Words l) (w : World) (hT : TabAt w) :
    Calls Tryd.prog 10 #[vals l] w fun e w' => ∃ s : ByteArray, e = .returned (.string s) ∧ s.size = cnt l 256 ∧ Below w.heap.size w w' := by
  obtain ⟨i0, hi0, hz0, hz1, hz2⟩ := info_parts u8_info'
  have hpos := hT.pos
  have HT := Lib.hid hT
  have HF : Hid (∀ (f : Nat) (W : World), f ≤ 256 → TabAt W → Calls Tryd.prog 8 #[vals l, .int .i64 f] W fun e w' => ∃ r, e = .returned (.int .i64 r) ∧ FirstIs l f r ∧ Below W.heap.size W w') := fun f W hf hT => first_any l hl f hf W hT
  clear hl hT
  unfold vals at HF ⊢
  generalize l.getD 0 0 = e0 at HF ⊢
  generalize l.getD 1 0 = e1 at HF ⊢
  generalize l.getD 2 0 = e2 at HF ⊢
  generalize l.getD 3 0 = e3 at HF ⊢
  go_enter Tryd.func10, Tryd.ntmps10
  go_wp2_with fail
  refine (HF.out 0 _ (by omega) (HT.out.below ((Below.refl _ _).alloc (Nat.le_refl _) _) hpos)).mono ?_
  rintro e w1 ⟨r, rfl, hr, hb1⟩
  have hB : Blk w1 w.heap.size 24 #[.int .u64 e0, .int .u64 e1, .int .u64 e2, .int .u64 e3] := (blk_at rfl).below hb1 (by simp)
  have hbw0 : Below w.heap.size w w1 := ((Below.refl _ _).alloc (Nat.le_refl _) _).trans (hb1.mono (by simp))
  have hs1 := hb1.size
  simp at hs1
  clear hb1
  go_wp2_with fail
  go_loopw [3, 4] (fun v b wr => ∃ (f : Nat) (r : Int) (acc : List UInt8) (V : Option Addr) (m cp : Nat), f ≤ 256 ∧ b = .int .i64 r ∧ v = .slice V m cp ∧ Hid (FirstIs l f r) ∧ Hid (m = cnt l f) ∧ m ≤ 256 ∧ wr.ownsRow (w.heap.size + 1) 5 1 (.slice V m cp) m (u8s acc) ∧ Below w.heap.size w wr ∧ Blk wr w.heap.size 24 #[.int .u64 e0, .int .u64 e1, .int .u64 e2, .int .u64 e3]) (fun _ b _ => (300 - intOf b).toNat % 301)
  case atStart => exact ⟨0, r, [], none, 0, 0, by omega, rfl, rfl, hr, rfl, by omega, ⟨rfl, .inl ⟨rfl, rfl⟩⟩, hbw0, hB⟩
  case round =>
    obtain ⟨f, r, acc, V, m, cp, hf, rfl, rfl, HR, HM, hm, hown, hbw, hB⟩ := hrel
    have hlt := hB.lt
    have z0 : wr.cell? ⟨w.heap.size, 0, none⟩ = some (.int .u64 e0) := hB.cell 0
    have z1 : wr.cell? ⟨w.heap.size, 1, none⟩ = some (.int .u64 e1) := hB.cell 1
    have z2 : wr.cell? ⟨w.heap.size, 2, none⟩ = some (.int .u64 e2) := hB.cell 2
    have z3 : wr.cell? ⟨w.heap.size, 3, none⟩ = some (.int .u64 e3) := hB.cell 3
    by_cases hr0 : 0 ≤ r
    · obtain ⟨b, rfl⟩ := Int.eq_ofNat_of_zero_le hr0
      obtain ⟨h1, h2, h3, h4⟩ := HR.out.cnt
      have HC := Lib.hid h4
      have hcl := cnt_le l (b + 1)
      have hm2 : m + 1 ≤ 256 := by have := HM.out; omega
      have hwb : IntKind.u8.wrap (b : Int) = (b : Int) := by rw [IntKind.wrap_u8]; omega
      clear h1 h3 h4 hcl
      go_wp2_with
       (at_builtin
        refine wpList_append_lies _ rfl _ _ _ rfl (w.heap.size + 1) 5 i0 _ 1 1 Tryd.underlying36 hi0 hz0 hz1 hz2 rfl (by omega) (.slice V m cp) m _ rfl (hown.alloc _) ⟨wr.heap.size, 0, none⟩ 1 1 [.int .u8 b] rfl rfl (World.news_of_block (cs := #[.int .u8 b]) (t := 5) (fr := (0, 0)) (blk_at rfl)) (by simp [Value.oneCell']) (by omega) (by unfold maxLen; omega) (by omega) (by simp; omega) _ rfl ?_; intro g cap w2 hown1 hgrow hat hlt1
        have hB2 := (hB.alloc (.cells #[.int .u8 b] 5)).grown hgrow (own_ne hown (by omega))
        have y0 : w2.cell? ⟨w.heap.size, 0, none⟩ = some (.int .u64 e0) := hB2.cell 0
        have y1 : w2.cell? ⟨w.heap.size, 1, none⟩ = some (.int .u64 e1) := hB2.cell 1
        have y2 : w2.cell? ⟨w.heap.size, 2, none⟩ = some (.int .u64 e2) := hB2.cell 2
        have y3 : w2.cell? ⟨w.heap.size, 3, none⟩ = some (.int .u64 e3) := hB2.cell 3
        have hbw2 : Below w.heap.size w w2 := below_app (hbw.alloc (by omega) _) (hown.alloc _) hgrow (by simp; omega) (by omega))
      refine (HF.out (b + 1) _ (by omega) (HT.out.below hbw2 hpos)).mono ?_
      rintro e w3 ⟨r', rfl, hr', hb3⟩
      have hs3 := hb3.size
      have h300 : Hid ((300 - r').toNat % 301 < 300 - b) := by
        show (300 - r').toNat % 301 < 300 - b
        rcases hr' with ⟨b', rfl, h1, h2', _, _⟩ | ⟨rfl, _⟩ <;> omega
      have HR2 := Lib.hid hr'
      clear hr'
      go_wp2
      go_roundw
      case rel =>
        refine ⟨b + 1, r', acc ++ [UInt8.ofNat b], some ⟨g, 0, none⟩, m + 1, cap, by omega, rfl, rfl, HR2, ?_, by omega, ?_, hbw2.trans (hb3.mono hbw2.size), hB2.below hb3 hB2.lt⟩
        · show m + 1 = cnt l (b + 1)
          rw [HC.out, HM.out]
        · rw [u8s_append]
          have : u8s [UInt8.ofNat b] = [.int .u8 (b : Int)] := by simp [u8s]; omega
          rw [this]
          exact own_below hown1 hb3
      case measure =>
        have := h300.out
        simp only [intOf]
        omega
    · have hcnt := HR.out.none (by omega) hf
      have hstr := string_own hown
      have hl := hown.1
      rw [u8s_length] at hl
      go_wp2
      go_ret
      exact ⟨_, rfl, by have := HM.out; simp [ByteArray.size]; omega, hbw⟩
end Go.Proofs.YtkoenjnjkapfmaaDoor
