/- (*runner).again; (*runner).run of sequences and alternatives. -/
import Derived.Test.YtjmckmjngnmagaaMrA
namespace Go.Proofs.Ytjmckmjngnmagaa
open Go.RowKit Go.Maps

theorem evR_some {g : List Rl} {s : List UInt8} : ∀ (n : Nat) (e : Ex) (p : Nat) (o : Option Nat), evR g s n e p = some o → ∃ tz, o = some tz
  | 0, e, p, o, h => by cases h
  | n + 1, e, p, o, h => by
    rw [evR_s] at h
    cases he : ev g s n e p with
    | none => rw [he] at h; cases h
    | some u =>
      rw [he] at h
      cases u with
      | none => injection h with h; exact ⟨p, h.symm⟩
      | some tz => exact evR_some n e tz o h
theorem cost_rep {g : List Rl} {s : List UInt8} {n : Nat} {e : Ex} {p : Nat} {u : Option Nat} (h : ev g s n e p = some u) : cost g s (n + 1) (.rep e) p = cost g s n (.ex e) p + (u.elim 0 fun q => cost g s n (.rep e) q) := by
  have hev : evJ g s n (.ex e) p = some u := h
  cases u <;> simp only [cost, hev, Nat.add_zero, Option.elim]
theorem cost_seq {g : List Rl} {s : List UInt8} {n : Nat} {e : Ex} {es : List Ex} {p : Nat} {u : Option Nat} (h : ev g s n e p = some u) : cost g s (n + 1) (.seq (e :: es)) p = cost g s n (.ex e) p + (u.elim 0 fun q => cost g s n (.seq es) q) := by
  have hev : evJ g s n (.ex e) p = some u := h
  cases u <;> simp only [cost, hev, Nat.add_zero, Option.elim]
theorem cost_alt {g : List Rl} {s : List UInt8} {n : Nat} {e : Ex} {es : List Ex} {p : Nat} {u : Option Nat} (h : ev g s n e p = some u) : cost g s (n + 1) (.alt (e :: es)) p = cost g s n (.ex e) p + (u.elim (cost g s n (.alt es) p) fun _ => 0) := by
  have hev : evJ g s n (.ex e) p = some u := h
  cases u <;> simp only [cost, hev, Nat.add_zero, Option.elim]

/-- what again and again leaves -/
def Rep (c : RC) (L C : Nat) (tz : Nat) (w : World) (e : Ending) (w' : World) : Prop := (∃ z : Int, e = .returned (.int .i64 z) ∧ (¬ L < C → z = (tz : Int))) ∧ Rn c w' (L - C) (decide (L < C)) ∧ KeepR c w w'
def DoesAgain (c : RC) (n : Nat) : Prop := ∀ (e : Ex) (p : Nat) (tz : Nat) (cs : List Value) (w : World) (L : Nat), evR c.g c.s.data.toList n e p = some (some tz) → ExIs w c.B e cs → RtW c.g e → p ≤ c.s.data.toList.length → Rn c w L false → L ≤ lots →
  Calls Try.prog 87 #[.pointer (some ⟨c.R, 0, none⟩), .agg cs.toArray, .int .i64 p] w (Rep c L (cost c.g c.s.data.toList n (.rep e) p) tz w)
/-- how many steps are left -/
def leftW (c : RC) (w : World) : Nat := match w.cell? ⟨c.R, 2, none⟩ with
  | some (.int _ z) => z.toNat
  | _ => 0
theorem Rn.leftW {c : RC} {w : World} {L : Nat} {ov : Bool} (h : Rn c w L ov) : leftW c w = L := by
  unfold Go.Proofs.Ytjmckmjngnmagaa.leftW
  rw [h.c2]
  simp

set_option maxRecDepth 100000 in
set_option maxHeartbeats 8000000 in
theorem again_any {c : RC} (F : c.Fit) {n : Nat} (hR : ∀ m, m ≤ n → DoesRun c m) : DoesAgain c n := by
  intro e p tz cs w L hev hE hRt hp h hL
  have hlt := h.blk.lt
  have hBR := c.BR
  have hB : c.B ≤ w.heap.size := by omega
  have H := fits_of F.right
  obtain ⟨k, a, b, d1, d2, t, A, nn, cp, rfl⟩ := e.parts hE
  have hal : Below w.heap.size w (w.alloc (.cells #[.int .i64 k, .int .u64 a, .int .u64 b, .int .u64 d1, .int .u64 d2, .string t, .slice A nn cp] 35)) := (Below.refl _ _).alloc (Nat.le_refl _) _
  have h0 : RunC c w L false #[.int .i64 k, .int .u64 a, .int .u64 b, .int .u64 d1, .int .u64 d2, .string t, .slice A nn cp] (w.alloc (.cells #[.int .i64 k, .int .u64 a, .int .u64 b, .int .u64 d1, .int .u64 d2, .string t, .slice A nn cp] 35)) := ⟨h.alloc _, (KeepR.refl c w).alloc _, blk_at rfl⟩
  have hcall := fun (m q : Nat) (u : Option Nat) (L' : Nat) (W : World) (hm : m ≤ n) (he : ev c.g c.s.data.toList m e q = some u) (hq : q ≤ c.s.data.toList.length) (hW : RunC c w L' false #[.int .i64 k, .int .u64 a, .int .u64 b, .int .u64 d1, .int .u64 d2, .string t, .slice A nn cp] W) (hL' : L' ≤ lots) =>
    hR m hm e q u _ W L' he (hE.on (hW.keeps.below hB hBR)) hRt hq hW.rn hL'
  have HC := Lib.hid hcall
  generalize hC : cost c.g c.s.data.toList n (.rep e) p = C
  have HEV : Hid (evR c.g c.s.data.toList n e p = some (some tz)) := hev
  have HAC : Hid (L - cost c.g c.s.data.toList n (.rep e) p = L - C ∧ (L < cost c.g c.s.data.toList n (.rep e) p ↔ L < C)) := ⟨by rw [hC], by rw [hC]⟩
  have HT := Lib.hid (fun (m q : Nat) (u : Option Nat) (hq : q ≤ c.s.data.toList.length) (he : ev c.g c.s.data.toList m e q = some u) => (told (s := c.s.data.toList) H m).1 e q u hRt.1 hq he)
  clear hcall hC hev hR hE hRt h H F hal
  go_enter Try.func87, Try.ntmps87
  go_wp2
  go_loopw [2] (fun v wr => ∃ q m L' : Nat, v = .int .i64 q ∧ m ≤ n ∧ Hid (evR c.g c.s.data.toList m e q = some (some tz)) ∧ Hid (L' - cost c.g c.s.data.toList m (.rep e) q = L - C ∧ (L' < cost c.g c.s.data.toList m (.rep e) q ↔ L < C)) ∧ q ≤ c.s.data.toList.length ∧ L' ≤ L ∧ RunC c w L' false #[.int .i64 k, .int .u64 a, .int .u64 b, .int .u64 d1, .int .u64 d2, .string t, .slice A nn cp] wr) (fun _ wr => leftW c wr)
  case atStart => exact ⟨p, n, L, rfl, Nat.le_refl _, HEV, HAC, hp, Nat.le_refl _, h0⟩
  case round =>
    clear h0 HEV HAC hp
    obtain ⟨q, m, L', rfl, hm, HEV, HAC, hq, hLL, h0⟩ := hrel
    have hev := HEV.out
    cases m with
    | zero => cases hev
    | succ m =>
    rw [evR_s] at hev
    cases he : ev c.g c.s.data.toList m e q with
    | none => rw [he] at hev; cases hev
    | some u =>
    rw [he] at hev
    have hac := HAC.out
    rw [cost_rep he] at hac
    have hpos := cost_pos _ _ _ _ _ _ he
    have hcall := HC.out m q u L' wr (by omega) he hq h0 (by omega)
    have ht := HT.out m q u hq he
    generalize hce : cost c.g c.s.data.toList m (.ex e) q = ce at hac hpos hcall
    have HCL := Lib.hid hcall
    have HEV2 := Lib.hid hev
    have HAC2 := Lib.hid hac
    have HTT := Lib.hid ht
    have x0 : wr.cell? ⟨w.heap.size, 0, none⟩ = some (.int .i64 k) := h0.box.cell 0; have x1 : wr.cell? ⟨w.heap.size, 1, none⟩ = some (.int .u64 a) := h0.box.cell 1; have x2 : wr.cell? ⟨w.heap.size, 2, none⟩ = some (.int .u64 b) := h0.box.cell 2; have x3 : wr.cell? ⟨w.heap.size, 3, none⟩ = some (.int .u64 d1) := h0.box.cell 3; have x4 : wr.cell? ⟨w.heap.size, 4, none⟩ = some (.int .u64 d2) := h0.box.cell 4; have x5 : wr.cell? ⟨w.heap.size, 5, none⟩ = some (.string t) := h0.box.cell 5; have x6 : wr.cell? ⟨w.heap.size, 6, none⟩ = some (.slice A nn cp) := h0.box.cell 6
    clear hcall hev hac ht he HEV HAC hce
    go_wp2_with fail
    refine HCL.out.mono ?_
    rintro e' w2 ⟨⟨z, rfl, hz⟩, h1, h2⟩
    have hk2 : KeepR c w w2 := h0.keeps.trans h2
    have hac := HAC2.out
    by_cases hlc : L' < ce
    · rw [if_pos hlc] at hz ⊢
      have hLC : L < C := hac.2.1 (by omega)
      go_wp2
      go_ret
      exact ⟨⟨q, rfl, fun h => absurd hLC h⟩, by rw [show L - C = L' - ce by omega, decide_eq_true hLC]; rw [decide_eq_true hlc] at h1; exact h1, hk2⟩
    · rw [if_neg hlc] at hz ⊢
      cases u with
      | none =>
        obtain rfl : q = tz := by have := HEV2.out; simpa using this
        simp only [Option.elim_none, Nat.add_zero] at hac
        have hLC : ¬ L < C := fun hc => hlc (hac.2.2 hc)
        go_wp2
        go_ret
        exact ⟨⟨q, rfl, fun _ => rfl⟩, by rw [← hac.1, decide_eq_false hLC]; rw [decide_eq_false hlc] at h1; exact h1, hk2⟩
      | some to1 =>
        obtain rfl := hz to1 rfl
        have hto := HTT.out.2.1
        simp only [Option.elim_some] at hac
        have hn1 : Rn c w2 (L' - ce) false := by rw [decide_eq_false hlc] at h1; exact h1
        have hx2 : RunC c w (L' - ce) false #[.int .i64 k, .int .u64 a, .int .u64 b, .int .u64 d1, .int .u64 d2, .string t, .slice A nn cp] w2 := ⟨hn1, hk2, h2.box h0.box (by omega)⟩
        go_wp2
        go_roundw
        case rel => exact ⟨to1, m, L' - ce, rfl, by omega, HEV2, Lib.hid ⟨by have := hac.1; omega, fun h => hac.2.1 (by omega), fun h => by have := hac.2.2 h; omega⟩, hto, by omega, hx2⟩
        case measure =>
          rw [hn1.leftW, h0.rn.leftW]
          omega

set_option maxRecDepth 100000 in
set_option maxHeartbeats 8000000 in
theorem mr_seq {c : RC} (F : c.Fit) {n : Nat} (hR : ∀ m, m ≤ n → DoesRun c m) {w : World} {l : Nat} (h : Rn c w (l + 1) false) (hl : l + 1 ≤ lots) (a b d1 d2 : Int) (t : ByteArray) (ks : List Ex) (p : Nat) (o : Option Nat) (cs : List Value)
    (hev : evS c.g c.s.data.toList n ks p = some o) (hE : ExIs w c.B (.mk 5 a b d1 d2 t ks) cs) (hRt : ∀ e ∈ ks, RtW c.g e) (hp : p ≤ c.s.data.toList.length) :
    Calls Try.prog 53 #[.pointer (some ⟨c.R, 0, none⟩), .agg cs.toArray, .int .i64 p] w (Gone c (l + 1) (1 + cost c.g c.s.data.toList n (.seq ks) p) o w) := by
  have hBR := c.BR
  have hB : c.B ≤ w.heap.size := by have := h.blk.lt; omega
  have H := fits_of F.right
  obtain ⟨ht, KA, kcp, rfl, hkc, hkm, _⟩ := hE.shape
  unfold exCells
  have hlt := h.blk.lt
  have s2 := h.c2
  have s3 := h.c3
  have f2 := h.fr 2
  have hpl : ((l + 1 : Nat) : Int) = (l : Int) + 1 := by omega
  rw [hpl] at s2
  have hl0 : ((l : Int) + 1 == 0) = false := by rw [beq_eq_false_iff_ne]; omega
  have hne : w.heap.size ≠ c.R := by omega
  have hl' : l + 1 ≤ 2000000 := hl
  have HN := Lib.hid (RunC.start h #[.int .i64 5, .int .u64 a, .int .u64 b, .int .u64 d1, .int .u64 d2, .string t, .slice KA ks.length kcp])
  clear h hl
  have hm8 : ks.length ≤ 9223372036854775807 := by unfold maxLen at hkm; omega
  generalize hC : cost c.g c.s.data.toList n (.seq ks) p = C
  have HEV : Hid (evS c.g c.s.data.toList n (ks.drop 0) p = some o) := hev
  have HAC : Hid (l - cost c.g c.s.data.toList n (.seq (ks.drop 0)) p = l - C ∧ (l < cost c.g c.s.data.toList n (.seq (ks.drop 0)) p ↔ l < C)) := ⟨by rw [List.drop_zero, hC], by rw [List.drop_zero, hC]⟩
  have HT := Lib.hid (fun (m q : Nat) (u : Option Nat) (e : Ex) (hm : e ∈ ks) (hq : q ≤ c.s.data.toList.length) (he : ev c.g c.s.data.toList m e q = some u) => (told (s := c.s.data.toList) H m).1 e q u (hRt e hm).1 hq he)
  have HE := Lib.hid hE
  have HR := Lib.hid hR
  have HRT := Lib.hid hRt
  clear hC hev hR hE hRt H F
  go_enter Try.func53, Try.ntmps53
  go_wp2
  go_loopw [2, 8, 9] (fun v ok i wr => ∃ j : Nat, j ≤ ks.length ∧ i = .int .i64 j ∧
    ((ok = .bool true ∧ ∃ q m L' : Nat, v = .int .i64 q ∧ m ≤ n ∧ Hid (evS c.g c.s.data.toList m (ks.drop j) q = some o) ∧ Hid (L' - cost c.g c.s.data.toList m (.seq (ks.drop j)) q = l - C ∧ (L' < cost c.g c.s.data.toList m (.seq (ks.drop j)) q ↔ l < C)) ∧ q ≤ c.s.data.toList.length ∧ L' ≤ l ∧ RunC c w L' false #[.int .i64 5, .int .u64 a, .int .u64 b, .int .u64 d1, .int .u64 d2, .string t, .slice KA ks.length kcp] wr) ∨
     (ok = .bool false ∧ (∃ z : Int, v = .int .i64 z) ∧ Hid ((if l < C then none else o) = none) ∧ RunC c w (l - C) (decide (l < C)) #[.int .i64 5, .int .u64 a, .int .u64 b, .int .u64 d1, .int .u64 d2, .string t, .slice KA ks.length kcp] wr))) (fun _ _ i _ => ks.length - (intOf i).toNat)
  case atStart => exact ⟨0, by omega, rfl, .inl ⟨rfl, p, n, l, rfl, Nat.le_refl _, HEV, HAC, hp, Nat.le_refl _, HN.out⟩⟩
  case round =>
    clear HEV HAC hp HN s2 s3 f2
    obtain ⟨j, hj, rfl, ⟨rfl, q, m, L', rfl, hm, HEV, HAC, hq, hLL, h0⟩ | ⟨rfl, ⟨z, rfl⟩, HO, h0⟩⟩ := hrel
    · have x0 : wr.cell? ⟨w.heap.size, 0, none⟩ = some (.int .i64 5) := h0.box.cell 0; have x1 : wr.cell? ⟨w.heap.size, 1, none⟩ = some (.int .u64 a) := h0.box.cell 1; have x2 : wr.cell? ⟨w.heap.size, 2, none⟩ = some (.int .u64 b) := h0.box.cell 2; have x3 : wr.cell? ⟨w.heap.size, 3, none⟩ = some (.int .u64 d1) := h0.box.cell 3; have x4 : wr.cell? ⟨w.heap.size, 4, none⟩ = some (.int .u64 d2) := h0.box.cell 4; have x5 : wr.cell? ⟨w.heap.size, 5, none⟩ = some (.string t) := h0.box.cell 5; have x6 : wr.cell? ⟨w.heap.size, 6, none⟩ = some (.slice KA ks.length kcp) := h0.box.cell 6
      by_cases hjk : j < ks.length
      · have hbw : Below c.B w wr := h0.keeps.below hB hBR
        obtain ⟨ad, k', a', b', c', d', t', ks', A', cp', rfl, hab, hej, hE', ⟨e0, e1, e2, e3, e4, e5, e6⟩⟩ := (HE.out.on hbw).kid hjk
        have hmem := List.mem_of_getElem? hej
        have hev := HEV.out
        have hac := HAC.out
        rw [drop_of hej] at hev hac
        cases m with
        | zero => cases hev
        | succ m =>
        rw [evS_cons] at hev
        cases he : ev c.g c.s.data.toList m (.mk k' a' b' c' d' t' ks') q with
        | none => rw [he] at hev; cases hev
        | some u =>
        rw [he] at hev
        rw [cost_seq he] at hac
        have hcall := HR.out m (by omega) _ q u _ wr L' he hE' (HRT.out _ hmem) hq h0.rn (by unfold lots; omega)
        have ht := HT.out m q u _ hmem hq he
        generalize hce : cost c.g c.s.data.toList m (.ex (.mk k' a' b' c' d' t' ks')) q = ce at hac hcall
        have HCL := Lib.hid hcall
        have HEV2 := Lib.hid hev
        have HAC2 := Lib.hid hac
        have HTT := Lib.hid ht
        have hjl : (j : Int) < (ks.length : Int) := by omega
        clear hcall hev hac ht he HEV HAC hce hE' hmem hej
        go_wp2_with fail
        refine HCL.out.mono ?_
        rintro e' w2 ⟨⟨z, rfl, hz⟩, h1, h2⟩
        have hk2 : KeepR c w w2 := h0.keeps.trans h2
        have hac := HAC2.out
        have hbx2 := h2.box h0.box (by omega)
        by_cases hlc : L' < ce
        · rw [if_pos hlc] at hz ⊢
          have hLC : l < C := hac.2.1 (by omega)
          go_wp2
          go_roundw
          case rel => exact ⟨j + 1, by omega, by go_num, .inr ⟨rfl, ⟨z, rfl⟩, Lib.hid (by rw [if_pos hLC]), by rw [show l - C = L' - ce by omega, decide_eq_true hLC]; rw [decide_eq_true hlc] at h1; exact h1, hk2, hbx2⟩⟩
          case measure => simp [intOf]; omega
        · rw [if_neg hlc] at hz ⊢
          cases u with
          | none =>
            obtain rfl : o = none := by have := HEV2.out; simp at this; exact this.symm
            simp only [Option.elim_none, Nat.add_zero] at hac
            have hLC : ¬ l < C := fun hc => hlc (hac.2.2 hc)
            go_wp2
            go_roundw
            case rel => exact ⟨j + 1, by omega, by go_num, .inr ⟨rfl, ⟨z, rfl⟩, Lib.hid (by rw [if_neg hLC]), by rw [← hac.1, decide_eq_false hLC]; rw [decide_eq_false hlc] at h1; exact h1, hk2, hbx2⟩⟩
            case measure => simp [intOf]; omega
          | some to1 =>
            obtain rfl := hz to1 rfl
            have hto := HTT.out.2.1
            simp only [Option.elim_some] at hac
            have hn1 : Rn c w2 (L' - ce) false := by rw [decide_eq_false hlc] at h1; exact h1
            have hx2 : RunC c w (L' - ce) false #[.int .i64 5, .int .u64 a, .int .u64 b, .int .u64 d1, .int .u64 d2, .string t, .slice (some ad) ks.length kcp] w2 := ⟨hn1, hk2, hbx2⟩
            go_wp2
            go_roundw
            case rel => exact ⟨j + 1, by omega, by go_num, .inl ⟨rfl, to1, m, L' - ce, rfl, by omega, HEV2, Lib.hid ⟨by have := hac.1; omega, fun h => hac.2.1 (by omega), fun h => by have := hac.2.2 h; omega⟩, hto, by omega, hx2⟩⟩
            case measure => simp [intOf]; omega
      · obtain rfl : j = ks.length := by omega
        have hev := HEV.out
        have hac := HAC.out
        rw [List.drop_length] at hev hac
        have hq2 : o = some q ∧ L' = l - C ∧ ¬ l < C := by
          cases m with
          | zero => cases hev
          | succ m =>
            rw [evS_nil] at hev
            injection hev with hev
            have h0 : cost c.g c.s.data.toList (m + 1) (.seq []) q = 0 := rfl
            rw [h0] at hac
            exact ⟨hev.symm, by have := hac.1; omega, fun h => by have := hac.2.2 h; omega⟩
        obtain ⟨rfl, rfl, hLC⟩ := hq2
        go_wp2
        go_ret2
        exact Gone.up (w1 := w) ⟨by rw [if_neg hLC]; exact ⟨q, rfl, fun tz ht => by injection ht with ht; rw [ht]⟩, by rw [decide_eq_false hLC]; exact h0.rn, h0.keeps⟩ (KeepR.refl c w)
    · have x0 : wr.cell? ⟨w.heap.size, 0, none⟩ = some (.int .i64 5) := h0.box.cell 0; have x1 : wr.cell? ⟨w.heap.size, 1, none⟩ = some (.int .u64 a) := h0.box.cell 1; have x2 : wr.cell? ⟨w.heap.size, 2, none⟩ = some (.int .u64 b) := h0.box.cell 2; have x3 : wr.cell? ⟨w.heap.size, 3, none⟩ = some (.int .u64 d1) := h0.box.cell 3; have x4 : wr.cell? ⟨w.heap.size, 4, none⟩ = some (.int .u64 d2) := h0.box.cell 4; have x5 : wr.cell? ⟨w.heap.size, 5, none⟩ = some (.string t) := h0.box.cell 5; have x6 : wr.cell? ⟨w.heap.size, 6, none⟩ = some (.slice KA ks.length kcp) := h0.box.cell 6
      have hjl : (j : Int) < (ks.length : Int) ∨ ¬ (j : Int) < (ks.length : Int) := Classical.em _
      rcases hjl with hjl | hjl
      all_goals
        go_wp2
        go_ret2
        exact Gone.up (w1 := w) ⟨by rw [HO.out]; exact ⟨z, rfl, fun tz ht => by cases ht⟩, h0.rn, h0.keeps⟩ (KeepR.refl c w)
end Go.Proofs.Ytjmckmjngnmagaa
