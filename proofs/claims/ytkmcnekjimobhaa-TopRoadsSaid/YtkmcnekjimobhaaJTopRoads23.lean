/- (*runner).again; (*runner).run of sequences and alternatives. (*runner).run of alternatives, and of what has one kid. (*runner).run of what has one kid. (*runner).run whole, by induction on the fuel; mean.Run. -/
import Derived.Test.YtkmcnekjimobhaaJTopRoads22
import Derived.BigQuiet
import Derived.Deep.QuietTactic
namespace Go.Proofs.Ytkmcnekjimobhaa
set_option maxHeartbeats 8000000
set_option maxRecDepth 100000
open Go.RowKit Go.Maps
theorem evR_some {g : List Rl} {s : List UInt8} : ∀ (n : Nat) (e : Ex) (p : Nat) (o : Option Nat), evR g s n e p = some o -> ∃ tz, o = some tz
  | 0, e, p, o, h => by cases h
  | n + 1, e, p, o, h => by
    rw [evR_s] at h
    cases he : ev g s n e p with
    | none => rw [he] at h; cases h
    | some u =>
      rw [he] at h
      cases u with
      | none => injection h with h; exact ⟨p, h.symm⟩
      | some tz => exact evR_some n e tz o h
theorem cost_rep {g : List Rl} {s : List UInt8} {n : Nat} {e : Ex} {p : Nat} {u : Option Nat} (h : ev g s n e p = some u) : cost g s (n + 1) (.rep e) p = cost g s n (.ex e) p + (u.elim 0 fun q => cost g s n (.rep e) q) := by
  have hev : evJ g s n (.ex e) p = some u := h
  cases u <;> simp only [cost, hev, Nat.add_zero, Option.elim]
theorem cost_seq {g : List Rl} {s : List UInt8} {n : Nat} {e : Ex} {es : List Ex} {p : Nat} {u : Option Nat} (h : ev g s n e p = some u) : cost g s (n + 1) (.seq (e :: es)) p = cost g s n (.ex e) p + (u.elim 0 fun q => cost g s n (.seq es) q) := by
  have hev : evJ g s n (.ex e) p = some u := h
  cases u <;> simp only [cost, hev, Nat.add_zero, Option.elim]
theorem cost_alt {g : List Rl} {s : List UInt8} {n : Nat} {e : Ex} {es : List Ex} {p : Nat} {u : Option Nat} (h : ev g s n e p = some u) : cost g s (n + 1) (.alt (e :: es)) p = cost g s n (.ex e) p + (u.elim (cost g s n (.alt es) p) fun _ => 0) := by
  have hev : evJ g s n (.ex e) p = some u := h
  cases u <;> simp only [cost, hev, Nat.add_zero, Option.elim]
def Rep (c : RC) (L C : Nat) (tz : Nat) (w : World) (e : Ending) (w' : World) : Prop := (∃ z : Int, e = .returned (.int .i64 z) /\ (¬ L < C -> z = (tz : Int))) /\ Rn c w' (L - C) (decide (L < C)) /\ KeepR c w w'
def DoesAgain (c : RC) (n : Nat) : Prop := ∀ (e : Ex) (p : Nat) (tz : Nat) (cs : List Value) (w : World) (L : Nat), evR c.g c.s.data.toList n e p = some (some tz) -> ExIs w c.B e cs -> RtW c.g e -> p <= c.s.data.toList.length -> Rn c w L false -> L <= lots ->
  Calls Try.prog 90 #[.pointer (some ⟨c.R, 0, none⟩), .agg cs.toArray, .int .i64 p] w (Rep c L (cost c.g c.s.data.toList n (.rep e) p) tz w)
def leftW (c : RC) (w : World) : Nat := match w.cell? ⟨c.R, 2, none⟩ with
  | some (.int _ z) => z.toNat
  | _ => 0
theorem Rn.leftW {c : RC} {w : World} {L : Nat} {ov : Bool} (h : Rn c w L ov) : leftW c w = L := by
  unfold Go.Proofs.Ytkmcnekjimobhaa.leftW
  rw [h.c2]
  simp
theorem again_any {c : RC} (F : c.Fit) {n : Nat} (hR : ∀ m, m <= n -> DoesRun c m) : DoesAgain c n := by
  intro e p tz cs w L hev hE hRt hp h hL
  have hlt := h.blk.lt
  have hBR := c.BR
  have hB : c.B <= w.heap.size := by omega
  have H := fits_of F.right
  obtain ⟨k, a, b, d1, d2, t, A, nn, cp, rfl⟩ := e.parts hE
  have hal : Below w.heap.size w (w.alloc (.cells #[.int .i64 k, .int .u64 a, .int .u64 b, .int .u64 d1, .int .u64 d2, .string t, .slice A nn cp] 37)) := (Below.refl _ _).alloc (Nat.le_refl _) _
  have h0 : RunC c w L false #[.int .i64 k, .int .u64 a, .int .u64 b, .int .u64 d1, .int .u64 d2, .string t, .slice A nn cp] (w.alloc (.cells #[.int .i64 k, .int .u64 a, .int .u64 b, .int .u64 d1, .int .u64 d2, .string t, .slice A nn cp] 37)) := ⟨h.alloc _, (KeepR.refl c w).alloc _, blk_at rfl⟩
  have hcall := fun (m q : Nat) (u : Option Nat) (L' : Nat) (W : World) (hm : m <= n) (he : ev c.g c.s.data.toList m e q = some u) (hq : q <= c.s.data.toList.length) (hW : RunC c w L' false #[.int .i64 k, .int .u64 a, .int .u64 b, .int .u64 d1, .int .u64 d2, .string t, .slice A nn cp] W) (hL' : L' <= lots) =>
    hR m hm e q u _ W L' he (hE.on (hW.keeps.below hB hBR)) hRt hq hW.rn hL'
  have HC := Lib.hid hcall
  generalize hC : cost c.g c.s.data.toList n (.rep e) p = C
  have HEV : Hid (evR c.g c.s.data.toList n e p = some (some tz)) := hev
  have HAC : Hid (L - cost c.g c.s.data.toList n (.rep e) p = L - C /\ (L < cost c.g c.s.data.toList n (.rep e) p ↔ L < C)) := ⟨by rw [hC], by rw [hC]⟩
  have HT := Lib.hid (fun (m q : Nat) (u : Option Nat) (hq : q <= c.s.data.toList.length) (he : ev c.g c.s.data.toList m e q = some u) => (told (s := c.s.data.toList) H m).1 e q u hRt.1 hq he)
  clear hcall hC hev hR hE hRt h H F hal
  go_enter Try.func90, Try.ntmps90
  go_wp2
  go_loopw [2] (fun v wr => ∃ q m L' : Nat, v = .int .i64 q /\ m <= n /\ Hid (evR c.g c.s.data.toList m e q = some (some tz)) /\ Hid (L' - cost c.g c.s.data.toList m (.rep e) q = L - C /\ (L' < cost c.g c.s.data.toList m (.rep e) q ↔ L < C)) /\ q <= c.s.data.toList.length /\ L' <= L /\ RunC c w L' false #[.int .i64 k, .int .u64 a, .int .u64 b, .int .u64 d1, .int .u64 d2, .string t, .slice A nn cp] wr) (fun _ wr => leftW c wr)
  case atStart => exact ⟨p, n, L, rfl, Nat.le_refl _, HEV, HAC, hp, Nat.le_refl _, h0⟩
  case round =>
    clear h0 HEV HAC hp
    obtain ⟨q, m, L', rfl, hm, HEV, HAC, hq, hLL, h0⟩ := hrel
    have hev := HEV.out
    cases m with
    | zero => cases hev
    | succ m =>
    rw [evR_s] at hev
    cases he : ev c.g c.s.data.toList m e q with
    | none => rw [he] at hev; cases hev
    | some u =>
    rw [he] at hev
    have hac := HAC.out
    rw [cost_rep he] at hac
    have hpos := cost_pos _ _ _ _ _ _ he
    have hcall := HC.out m q u L' wr (by omega) he hq h0 (by omega)
    have ht := HT.out m q u hq he
    generalize hce : cost c.g c.s.data.toList m (.ex e) q = ce at hac hpos hcall
    have HCL := Lib.hid hcall
    have HEV2 := Lib.hid hev
    have HAC2 := Lib.hid hac
    have HTT := Lib.hid ht
    have x0 : wr.cell? ⟨w.heap.size, 0, none⟩ = some (.int .i64 k) := h0.box.cell 0; have x1 : wr.cell? ⟨w.heap.size, 1, none⟩ = some (.int .u64 a) := h0.box.cell 1; have x2 : wr.cell? ⟨w.heap.size, 2, none⟩ = some (.int .u64 b) := h0.box.cell 2; have x3 : wr.cell? ⟨w.heap.size, 3, none⟩ = some (.int .u64 d1) := h0.box.cell 3; have x4 : wr.cell? ⟨w.heap.size, 4, none⟩ = some (.int .u64 d2) := h0.box.cell 4; have x5 : wr.cell? ⟨w.heap.size, 5, none⟩ = some (.string t) := h0.box.cell 5; have x6 : wr.cell? ⟨w.heap.size, 6, none⟩ = some (.slice A nn cp) := h0.box.cell 6
    clear hcall hev hac ht he HEV HAC hce
    go_wp2_with fail
    refine HCL.out.mono ?_
    rintro e' w2 ⟨⟨z, rfl, hz⟩, h1, h2⟩
    have hk2 : KeepR c w w2 := h0.keeps.trans h2
    have hac := HAC2.out
    by_cases hlc : L' < ce
    · rw [if_pos hlc] at hz ⊢
      have hLC : L < C := hac.2.1 (by omega)
      go_wp2
      go_ret
      exact ⟨⟨q, rfl, fun h => absurd hLC h⟩, by rw [show L - C = L' - ce by omega, decide_eq_true hLC]; rw [decide_eq_true hlc] at h1; exact h1, hk2⟩
    · rw [if_neg hlc] at hz ⊢
      cases u with
      | none =>
        obtain rfl : q = tz := by have := HEV2.out; simpa using this
        simp only [Option.elim_none, Nat.add_zero] at hac
        have hLC : ¬ L < C := fun hc => hlc (hac.2.2 hc)
        go_wp2
        go_ret
        exact ⟨⟨q, rfl, fun _ => rfl⟩, by rw [<- hac.1, decide_eq_false hLC]; rw [decide_eq_false hlc] at h1; exact h1, hk2⟩
      | some to1 =>
        obtain rfl := hz to1 rfl
        have hto := HTT.out.2.1
        simp only [Option.elim_some] at hac
        have hn1 : Rn c w2 (L' - ce) false := by rw [decide_eq_false hlc] at h1; exact h1
        have hx2 : RunC c w (L' - ce) false #[.int .i64 k, .int .u64 a, .int .u64 b, .int .u64 d1, .int .u64 d2, .string t, .slice A nn cp] w2 := ⟨hn1, hk2, h2.box h0.box (by omega)⟩
        go_wp2
        go_roundw
        case rel => exact ⟨to1, m, L' - ce, rfl, by omega, HEV2, Lib.hid ⟨by have := hac.1; omega, fun h => hac.2.1 (by omega), fun h => by have := hac.2.2 h; omega⟩, hto, by omega, hx2⟩
        case measure =>
          rw [hn1.leftW, h0.rn.leftW]
          omega
theorem mr_seq {c : RC} (F : c.Fit) {n : Nat} (hR : ∀ m, m <= n -> DoesRun c m) {w : World} {l : Nat} (h : Rn c w (l + 1) false) (hl : l + 1 <= lots) (a b d1 d2 : Int) (t : ByteArray) (ks : List Ex) (p : Nat) (o : Option Nat) (cs : List Value)
    (hev : evS c.g c.s.data.toList n ks p = some o) (hE : ExIs w c.B (.mk 5 a b d1 d2 t ks) cs) (hRt : ∀ e ∈ ks, RtW c.g e) (hp : p <= c.s.data.toList.length) :
    Calls Try.prog 55 #[.pointer (some ⟨c.R, 0, none⟩), .agg cs.toArray, .int .i64 p] w (Gone c (l + 1) (1 + cost c.g c.s.data.toList n (.seq ks) p) o w) := by
  have hBR := c.BR
  have hB : c.B <= w.heap.size := by have := h.blk.lt; omega
  have H := fits_of F.right
  obtain ⟨ht, KA, kcp, rfl, hkc, hkm, _⟩ := hE.shape
  unfold exCells
  have hlt := h.blk.lt
  have s2 := h.c2
  have s3 := h.c3
  have f2 := h.fr 2
  have hpl : ((l + 1 : Nat) : Int) = (l : Int) + 1 := by omega
  rw [hpl] at s2
  have hl0 : ((l : Int) + 1 == 0) = false := by rw [beq_eq_false_iff_ne]; omega
  have hne : w.heap.size ≠ c.R := by omega
  have hl' : l + 1 <= 2000000 := hl
  have HN := Lib.hid (RunC.start h #[.int .i64 5, .int .u64 a, .int .u64 b, .int .u64 d1, .int .u64 d2, .string t, .slice KA ks.length kcp])
  clear h hl
  have hm8 : ks.length <= 9223372036854775807 := by unfold maxLen at hkm; omega
  generalize hC : cost c.g c.s.data.toList n (.seq ks) p = C
  have HEV : Hid (evS c.g c.s.data.toList n (ks.drop 0) p = some o) := hev
  have HAC : Hid (l - cost c.g c.s.data.toList n (.seq (ks.drop 0)) p = l - C /\ (l < cost c.g c.s.data.toList n (.seq (ks.drop 0)) p ↔ l < C)) := ⟨by rw [List.drop_zero, hC], by rw [List.drop_zero, hC]⟩
  have HT := Lib.hid (fun (m q : Nat) (u : Option Nat) (e : Ex) (hm : e ∈ ks) (hq : q <= c.s.data.toList.length) (he : ev c.g c.s.data.toList m e q = some u) => (told (s := c.s.data.toList) H m).1 e q u (hRt e hm).1 hq he)
  have HE := Lib.hid hE
  have HR := Lib.hid hR
  have HRT := Lib.hid hRt
  clear hC hev hR hE hRt H F
  go_enter Try.func55, Try.ntmps55
  go_wp2
  go_loopw [2, 8, 9] (fun v ok i wr => ∃ j : Nat, j <= ks.length /\ i = .int .i64 j /\
    ((ok = .bool true /\ ∃ q m L' : Nat, v = .int .i64 q /\ m <= n /\ Hid (evS c.g c.s.data.toList m (ks.drop j) q = some o) /\ Hid (L' - cost c.g c.s.data.toList m (.seq (ks.drop j)) q = l - C /\ (L' < cost c.g c.s.data.toList m (.seq (ks.drop j)) q ↔ l < C)) /\ q <= c.s.data.toList.length /\ L' <= l /\ RunC c w L' false #[.int .i64 5, .int .u64 a, .int .u64 b, .int .u64 d1, .int .u64 d2, .string t, .slice KA ks.length kcp] wr) \/
     (ok = .bool false /\ (∃ z : Int, v = .int .i64 z) /\ Hid ((if l < C then none else o) = none) /\ RunC c w (l - C) (decide (l < C)) #[.int .i64 5, .int .u64 a, .int .u64 b, .int .u64 d1, .int .u64 d2, .string t, .slice KA ks.length kcp] wr))) (fun _ _ i _ => ks.length - (intOf i).toNat)
  case atStart => exact ⟨0, by omega, rfl, .inl ⟨rfl, p, n, l, rfl, Nat.le_refl _, HEV, HAC, hp, Nat.le_refl _, HN.out⟩⟩
  case round =>
    clear HEV HAC hp HN s2 s3 f2
    obtain ⟨j, hj, rfl, ⟨rfl, q, m, L', rfl, hm, HEV, HAC, hq, hLL, h0⟩ | ⟨rfl, ⟨z, rfl⟩, HO, h0⟩⟩ := hrel
    · have x0 : wr.cell? ⟨w.heap.size, 0, none⟩ = some (.int .i64 5) := h0.box.cell 0; have x1 : wr.cell? ⟨w.heap.size, 1, none⟩ = some (.int .u64 a) := h0.box.cell 1; have x2 : wr.cell? ⟨w.heap.size, 2, none⟩ = some (.int .u64 b) := h0.box.cell 2; have x3 : wr.cell? ⟨w.heap.size, 3, none⟩ = some (.int .u64 d1) := h0.box.cell 3; have x4 : wr.cell? ⟨w.heap.size, 4, none⟩ = some (.int .u64 d2) := h0.box.cell 4; have x5 : wr.cell? ⟨w.heap.size, 5, none⟩ = some (.string t) := h0.box.cell 5; have x6 : wr.cell? ⟨w.heap.size, 6, none⟩ = some (.slice KA ks.length kcp) := h0.box.cell 6
      by_cases hjk : j < ks.length
      · have hbw : Below c.B w wr := h0.keeps.below hB hBR
        obtain ⟨ad, k', a', b', c', d', t', ks', A', cp', rfl, hab, hej, hE', ⟨e0, e1, e2, e3, e4, e5, e6⟩⟩ := (HE.out.on hbw).kid hjk
        have hmem := List.mem_of_getElem? hej
        have hev := HEV.out
        have hac := HAC.out
        rw [drop_of hej] at hev hac
        cases m with
        | zero => cases hev
        | succ m =>
        rw [evS_cons] at hev
        cases he : ev c.g c.s.data.toList m (.mk k' a' b' c' d' t' ks') q with
        | none => rw [he] at hev; cases hev
        | some u =>
        rw [he] at hev
        rw [cost_seq he] at hac
        have hcall := HR.out m (by omega) _ q u _ wr L' he hE' (HRT.out _ hmem) hq h0.rn (by unfold lots; omega)
        have ht := HT.out m q u _ hmem hq he
        generalize hce : cost c.g c.s.data.toList m (.ex (.mk k' a' b' c' d' t' ks')) q = ce at hac hcall
        have HCL := Lib.hid hcall
        have HEV2 := Lib.hid hev
        have HAC2 := Lib.hid hac
        have HTT := Lib.hid ht
        have hjl : (j : Int) < (ks.length : Int) := by omega
        clear hcall hev hac ht he HEV HAC hce hE' hmem hej
        go_wp2_with fail
        refine HCL.out.mono ?_
        rintro e' w2 ⟨⟨z, rfl, hz⟩, h1, h2⟩
        have hk2 : KeepR c w w2 := h0.keeps.trans h2
        have hac := HAC2.out
        have hbx2 := h2.box h0.box (by omega)
        by_cases hlc : L' < ce
        · rw [if_pos hlc] at hz ⊢
          have hLC : l < C := hac.2.1 (by omega)
          go_wp2
          go_roundw
          case rel => exact ⟨j + 1, by omega, by go_num, .inr ⟨rfl, ⟨z, rfl⟩, Lib.hid (by rw [if_pos hLC]), by rw [show l - C = L' - ce by omega, decide_eq_true hLC]; rw [decide_eq_true hlc] at h1; exact h1, hk2, hbx2⟩⟩
          case measure => simp [intOf]; omega
        · rw [if_neg hlc] at hz ⊢
          cases u with
          | none =>
            obtain rfl : o = none := by have := HEV2.out; simp at this; exact this.symm
            simp only [Option.elim_none, Nat.add_zero] at hac
            have hLC : ¬ l < C := fun hc => hlc (hac.2.2 hc)
            go_wp2
            go_roundw
            case rel => exact ⟨j + 1, by omega, by go_num, .inr ⟨rfl, ⟨z, rfl⟩, Lib.hid (by rw [if_neg hLC]), by rw [<- hac.1, decide_eq_false hLC]; rw [decide_eq_false hlc] at h1; exact h1, hk2, hbx2⟩⟩
            case measure => simp [intOf]; omega
          | some to1 =>
            obtain rfl := hz to1 rfl
            have hto := HTT.out.2.1
            simp only [Option.elim_some] at hac
            have hn1 : Rn c w2 (L' - ce) false := by rw [decide_eq_false hlc] at h1; exact h1
            have hx2 : RunC c w (L' - ce) false #[.int .i64 5, .int .u64 a, .int .u64 b, .int .u64 d1, .int .u64 d2, .string t, .slice (some ad) ks.length kcp] w2 := ⟨hn1, hk2, hbx2⟩
            go_wp2
            go_roundw
            case rel => exact ⟨j + 1, by omega, by go_num, .inl ⟨rfl, to1, m, L' - ce, rfl, by omega, HEV2, Lib.hid ⟨by have := hac.1; omega, fun h => hac.2.1 (by omega), fun h => by have := hac.2.2 h; omega⟩, hto, by omega, hx2⟩⟩
            case measure => simp [intOf]; omega
      · obtain rfl : j = ks.length := by omega
        have hev := HEV.out
        have hac := HAC.out
        rw [List.drop_length] at hev hac
        have hq2 : o = some q /\ L' = l - C /\ ¬ l < C := by
          cases m with
          | zero => cases hev
          | succ m =>
            rw [evS_nil] at hev
            injection hev with hev
            have h0 : cost c.g c.s.data.toList (m + 1) (.seq []) q = 0 := rfl
            rw [h0] at hac
            exact ⟨hev.symm, by have := hac.1; omega, fun h => by have := hac.2.2 h; omega⟩
        obtain ⟨rfl, rfl, hLC⟩ := hq2
        go_wp2
        go_ret2
        exact Gone.up (w1 := w) ⟨by rw [if_neg hLC]; exact ⟨q, rfl, fun tz ht => by injection ht with ht; rw [ht]⟩, by rw [decide_eq_false hLC]; exact h0.rn, h0.keeps⟩ (KeepR.refl c w)
    · have x0 : wr.cell? ⟨w.heap.size, 0, none⟩ = some (.int .i64 5) := h0.box.cell 0; have x1 : wr.cell? ⟨w.heap.size, 1, none⟩ = some (.int .u64 a) := h0.box.cell 1; have x2 : wr.cell? ⟨w.heap.size, 2, none⟩ = some (.int .u64 b) := h0.box.cell 2; have x3 : wr.cell? ⟨w.heap.size, 3, none⟩ = some (.int .u64 d1) := h0.box.cell 3; have x4 : wr.cell? ⟨w.heap.size, 4, none⟩ = some (.int .u64 d2) := h0.box.cell 4; have x5 : wr.cell? ⟨w.heap.size, 5, none⟩ = some (.string t) := h0.box.cell 5; have x6 : wr.cell? ⟨w.heap.size, 6, none⟩ = some (.slice KA ks.length kcp) := h0.box.cell 6
      have hjl : (j : Int) < (ks.length : Int) \/ ¬ (j : Int) < (ks.length : Int) := Classical.em _
      rcases hjl with hjl | hjl
      all_goals
        go_wp2
        go_ret2
        exact Gone.up (w1 := w) ⟨by rw [HO.out]; exact ⟨z, rfl, fun tz ht => by cases ht⟩, h0.rn, h0.keeps⟩ (KeepR.refl c w)
theorem mr_alt {c : RC} {n : Nat} (hR : ∀ m, m <= n -> DoesRun c m) {w : World} {l : Nat} (h : Rn c w (l + 1) false) (hl : l + 1 <= lots) (a b d1 d2 : Int) (t : ByteArray) (ks : List Ex) (p : Nat) (o : Option Nat) (cs : List Value)
    (hev : evA c.g c.s.data.toList n ks p = some o) (hE : ExIs w c.B (.mk 6 a b d1 d2 t ks) cs) (hRt : ∀ e ∈ ks, RtW c.g e) (hp : p <= c.s.data.toList.length) :
    Calls Try.prog 55 #[.pointer (some ⟨c.R, 0, none⟩), .agg cs.toArray, .int .i64 p] w (Gone c (l + 1) (1 + cost c.g c.s.data.toList n (.alt ks) p) o w) := by
  have hBR := c.BR
  have hB : c.B <= w.heap.size := by have := h.blk.lt; omega
  obtain ⟨ht, KA, kcp, rfl, hkc, hkm, _⟩ := hE.shape
  unfold exCells
  have hlt := h.blk.lt
  have s2 := h.c2
  have s3 := h.c3
  have f2 := h.fr 2
  have hpl : ((l + 1 : Nat) : Int) = (l : Int) + 1 := by omega
  rw [hpl] at s2
  have hl0 : ((l : Int) + 1 == 0) = false := by rw [beq_eq_false_iff_ne]; omega
  have hne : w.heap.size ≠ c.R := by omega
  have hl' : l + 1 <= 2000000 := hl
  have HN := Lib.hid (RunC.start h #[.int .i64 6, .int .u64 a, .int .u64 b, .int .u64 d1, .int .u64 d2, .string t, .slice KA ks.length kcp])
  clear h hl
  have hm8 : ks.length <= 9223372036854775807 := by unfold maxLen at hkm; omega
  generalize hC : cost c.g c.s.data.toList n (.alt ks) p = C
  have HEV : Hid (evA c.g c.s.data.toList n (ks.drop 0) p = some o) := hev
  have HAC : Hid (l - cost c.g c.s.data.toList n (.alt (ks.drop 0)) p = l - C /\ (l < cost c.g c.s.data.toList n (.alt (ks.drop 0)) p ↔ l < C)) := ⟨by rw [List.drop_zero, hC], by rw [List.drop_zero, hC]⟩
  have HE := Lib.hid hE
  have HR := Lib.hid hR
  have HRT := Lib.hid hRt
  have HP := Lib.hid hp
  clear hC hev hR hE hRt hp
  go_enter Try.func55, Try.ntmps55
  go_wp2
  go_loopw [133] (fun i wr => ∃ j : Nat, j <= ks.length /\ i = .int .i64 j /\
    ∃ m L' : Nat, m <= n /\ Hid (evA c.g c.s.data.toList m (ks.drop j) p = some o) /\ Hid (L' - cost c.g c.s.data.toList m (.alt (ks.drop j)) p = l - C /\ (L' < cost c.g c.s.data.toList m (.alt (ks.drop j)) p ↔ l < C)) /\ L' <= l /\ RunC c w L' false #[.int .i64 6, .int .u64 a, .int .u64 b, .int .u64 d1, .int .u64 d2, .string t, .slice KA ks.length kcp] wr) (fun i _ => ks.length - (intOf i).toNat)
  case atStart => exact ⟨0, by omega, rfl, n, l, Nat.le_refl _, HEV, HAC, Nat.le_refl _, HN.out⟩
  case round =>
    clear HEV HAC HN s2 s3 f2
    obtain ⟨j, hj, rfl, m, L', hm, HEV, HAC, hLL, h0⟩ := hrel
    by_cases hjk : j < ks.length
    · have hbw : Below c.B w wr := h0.keeps.below hB hBR
      obtain ⟨ad, k', a', b', c', d', t', ks', A', cp', rfl, hab, hej, hE', ⟨e0, e1, e2, e3, e4, e5, e6⟩⟩ := (HE.out.on hbw).kid hjk
      have hmem := List.mem_of_getElem? hej
      have hev := HEV.out
      have hac := HAC.out
      rw [drop_of hej] at hev hac
      cases m with
      | zero => cases hev
      | succ m =>
      rw [evA_cons] at hev
      cases he : ev c.g c.s.data.toList m (.mk k' a' b' c' d' t' ks') p with
      | none => rw [he] at hev; cases hev
      | some u =>
      rw [he] at hev
      rw [cost_alt he] at hac
      have hzw := h0.rn.blk.lt
      have hx1 := h0.alloc (.cells #[.int .i64 k', .int .u64 a', .int .u64 b', .int .u64 c', .int .u64 d', .string t', .slice A' ks'.length cp'] 37)
      have hcall := HR.out m (by omega) _ p u _ _ L' he (hE'.on ((Below.refl _ _).alloc (by omega) (.cells #[.int .i64 k', .int .u64 a', .int .u64 b', .int .u64 c', .int .u64 d', .string t', .slice A' ks'.length cp'] 37))) (HRT.out _ hmem) HP.out hx1.rn (by unfold lots; omega)
      generalize hce : cost c.g c.s.data.toList m (.ex (.mk k' a' b' c' d' t' ks')) p = ce at hac hcall
      unfold exCells at hcall
      have HCL := Lib.hid hcall
      have HEV2 := Lib.hid hev
      have HAC2 := Lib.hid hac
      have hjl : (j : Int) < (ks.length : Int) := by omega
      clear hcall hev hac he HEV HAC hce hE' hmem hej
      go_wp2_with fail
      refine HCL.out.mono ?_
      rintro e' w2 ⟨⟨z, rfl, hz⟩, h1, h2⟩
      have hk2 : KeepR c w w2 := (h0.keeps.alloc _).trans h2
      have hac := HAC2.out
      have hbx2 := h2.box hx1.box (by omega)
      have s3 := h1.c3
      by_cases hlc : L' < ce
      · rw [if_pos hlc] at hz ⊢
        have hLC : l < C := hac.2.1 (by omega)
        rw [decide_eq_true hlc] at s3 h1
        go_wp2
        go_ret2
        exact Gone.up (w1 := w) ⟨by rw [if_pos hLC]; exact ⟨z, rfl, fun tz ht => by cases ht⟩, by rw [show l - C = L' - ce by omega, decide_eq_true hLC]; exact h1, hk2⟩ (KeepR.refl c w)
      · rw [if_neg hlc] at hz ⊢
        rw [decide_eq_false hlc] at s3 h1
        cases u with
        | some tz1 =>
          obtain rfl := hz tz1 rfl
          obtain rfl : o = some tz1 := by have := HEV2.out; simp at this; exact this.symm
          simp only [Option.elim_some, Nat.add_zero] at hac
          have hLC : ¬ l < C := fun hc => hlc (hac.2.2 hc)
          go_wp2
          go_ret2
          exact Gone.up (w1 := w) ⟨by rw [if_neg hLC]; exact ⟨tz1, rfl, fun tz ht => by injection ht with ht; rw [ht]⟩, by rw [<- hac.1, decide_eq_false hLC]; exact h1, hk2⟩ (KeepR.refl c w)
        | none =>
          simp only [Option.elim_none] at hac
          go_wp2
          go_roundw
          case rel => exact ⟨j + 1, by omega, by go_num, m, L' - ce, by omega, HEV2, Lib.hid ⟨by have := hac.1; omega, fun h => hac.2.1 (by omega), fun h => by have := hac.2.2 h; omega⟩, by omega, ⟨h1, hk2, hbx2⟩⟩
          case measure => simp [intOf]; omega
    · obtain rfl : j = ks.length := by omega
      have hev := HEV.out
      have hac := HAC.out
      rw [List.drop_length] at hev hac
      have hq2 : o = none /\ L' = l - C /\ ¬ l < C := by
        cases m with
        | zero => cases hev
        | succ m =>
          rw [evA_nil] at hev
          injection hev with hev
          have h0 : cost c.g c.s.data.toList (m + 1) (.alt []) p = 0 := rfl
          rw [h0] at hac
          exact ⟨hev.symm, by have := hac.1; omega, fun h => by have := hac.2.2 h; omega⟩
      obtain ⟨rfl, rfl, hLC⟩ := hq2
      go_wp2
      go_ret2
      exact Gone.up (w1 := w) ⟨by rw [if_neg hLC]; exact ⟨0, rfl, fun tz ht => by cases ht⟩, by rw [decide_eq_false hLC]; exact h0.rn, h0.keeps⟩ (KeepR.refl c w)
theorem cost_kid {g : List Rl} {s : List UInt8} {n : Nat} {k : Int} {e : Ex} {p : Nat} {u : Option Nat} (hk : k ≠ 7) (h : ev g s n e p = some u) : cost g s (n + 1) (.kid k e) p = cost g s n (.ex e) p + (u.elim 0 fun q => if k = 8 then cost g s n (.rep e) q else 0) := by
  have hev : evJ g s n (.ex e) p = some u := h
  cases u with
  | none => simp only [cost, hev, if_neg hk, Nat.add_zero, Option.elim]
  | some tz =>
    by_cases h8 : k = 8
    · simp only [cost, hev, if_neg hk, if_pos h8, Option.elim]
    · simp only [cost, hev, if_neg hk, if_neg h8, Nat.add_zero, Option.elim]
theorem Rn.drewN {c : RC} {w : World} {L : Nat} {ov : Bool} (h : Rn c w L ov) (d : Nat) : Rn c (w.drewN d) L ov := ⟨h.blk.drewN d, h.gram.on (below_drewN (Below.refl _ _) d)⟩
theorem KeepR.drewN {c : RC} {w w' : World} (h : KeepR c w w') (d : Nat) : KeepR c w (w'.drewN d) := ⟨h.os, h.tape, h.output, h.size, h.blk⟩
theorem ret_some {tz : Nat} {z : Int} (h : z = (tz : Int)) : Ret (some tz) (.returned (.tuple #[.int .i64 z, .bool true])) := ⟨z, rfl, fun q hq => by injection hq with hq; rw [h, hq]⟩
theorem ret_none (z : Int) : Ret none (.returned (.tuple #[.int .i64 z, .bool false])) := ⟨z, rfl, fun q hq => by cases hq⟩
theorem Gone.short {c : RC} {l C x : Nat} {o : Option Nat} {w w' : World} {z : Int} (hx : l < x) (hC : x <= C) (hn : Rn c w' (l - x) true) (hk : KeepR c w w') : Gone c (l + 1) (1 + C) o w (.returned (.tuple #[.int .i64 z, .bool false])) w' := by
  refine ⟨?_, ?_, hk⟩
  · rw [if_pos (by omega)]; exact ret_none z
  · rw [show l + 1 - (1 + C) = l - x by omega, decide_eq_true (by omega)]; exact hn
theorem Gone.full {c : RC} {l C : Nat} {o : Option Nat} {w w' : World} {e : Ending} (hx : ¬ l < C) (hr : Ret o e) (hn : Rn c w' (l - C) false) (hk : KeepR c w w') : Gone c (l + 1) (1 + C) o w e w' := by
  refine ⟨?_, ?_, hk⟩
  · rw [if_neg (by omega)]; exact hr
  · rw [show l + 1 - (1 + C) = l - C by omega, decide_eq_false (by omega)]; exact hn
theorem mr_one {c : RC} (F : c.Fit) {n : Nat} (hR : ∀ m, m <= n -> DoesRun c m) (hA : ∀ m, m <= n -> DoesAgain c m) {w : World} {l : Nat} (h : Rn c w (l + 1) false) (hl : l + 1 <= lots) (k a b d1 d2 : Int) (t : ByteArray) (e : Ex) (p : Nat) (o : Option Nat) (cs : List Value) (h7 : 7 <= k) (h11 : k <= 11)
    (hev : evK c.g c.s.data.toList n k e p = some o) (hE : ExIs w c.B (.mk k a b d1 d2 t [e]) cs) (hRt : RtW c.g e) (hp : p <= c.s.data.toList.length) :
    Calls Try.prog 55 #[.pointer (some ⟨c.R, 0, none⟩), .agg cs.toArray, .int .i64 p] w (Gone c (l + 1) (1 + cost c.g c.s.data.toList n (.kid k e) p) o w) := by
  have hBR := c.BR
  have hB : c.B <= w.heap.size := by have := h.blk.lt; omega
  have H := fits_of F.right
  obtain ⟨ht, KA, kcp, rfl, hkc, hkm, _⟩ := hE.shape
  have hkl : ([e] : List Ex).length = 1 := rfl
  rw [hkl] at hE hkc ⊢
  clear hkl
  unfold exCells
  obtain ⟨ad, k', a', b', c', d', t', ks', A', cp', rfl, hab, hej, hE', hS⟩ := hE.kid (j := 0) (by simp)
  obtain rfl : e = .mk k' a' b' c' d' t' ks' := by simpa using hej
  rw [Nat.zero_mul] at hS
  have hS1 : Seven w ad k' a' b' c' d' t' A' ks'.length cp' := hS
  have hsv := fun W (hW : Below c.B w W) => hS1.keep (w' := W) fun q hq => hW.cell (by rw [hq]; exact hab)
  have hm8 : (1 : Nat) <= kcp := hkc
  unfold maxLen at hkm
  have hadR : ad.block ≠ c.R := by omega
  have hadR' : c.R ≠ ad.block := by omega
  have hadw : ad.block < w.heap.size := by omega
  have hcallR := fun (m : Nat) (q L' : Nat) (ov : Bool) (u : Option Nat) (W : World) (hm : m <= n) (he : ev c.g c.s.data.toList m (.mk k' a' b' c' d' t' ks') q = some u) (hq : q <= c.s.data.toList.length) (hk : KeepR c w W) (hW : Rn c W L' false) (hL' : L' <= lots) =>
    hR m hm _ q u _ W L' he (hE'.on (hk.below hB hBR)) hRt hq hW hL'
  have hcallA := fun (m : Nat) (q L' : Nat) (tz : Nat) (W : World) (hm : m <= n) (he : evR c.g c.s.data.toList m (.mk k' a' b' c' d' t' ks') q = some (some tz)) (hq : q <= c.s.data.toList.length) (hk : KeepR c w W) (hW : Rn c W L' false) (hL' : L' <= lots) =>
    hA m hm _ q tz _ W L' he (hE'.on (hk.below hB hBR)) hRt hq hW hL'
  unfold exCells at hcallR hcallA
  have HT := Lib.hid (fun (m q : Nat) (u : Option Nat) (hq : q <= c.s.data.toList.length) (he : ev c.g c.s.data.toList m (.mk k' a' b' c' d' t' ks') q = some u) => (told (s := c.s.data.toList) H m).1 _ q u hRt.1 hq he)
  have hlt := h.blk.lt
  have s2 := h.c2
  have s3 := h.c3
  have f2 := h.fr 2
  have hpl : ((l + 1 : Nat) : Int) = (l : Int) + 1 := by omega
  rw [hpl] at s2
  have hl0 : ((l : Int) + 1 == 0) = false := by rw [beq_eq_false_iff_ne]; omega
  have hne : w.heap.size ≠ c.R := by omega
  have hl' : l + 1 <= 2000000 := hl
  have HN := Lib.hid (RunC.start h #[.int .i64 k, .int .u64 a, .int .u64 b, .int .u64 d1, .int .u64 d2, .string t, .slice (some ad) 1 kcp])
  clear h hl
  obtain ⟨s10, s11, s12, s13, s14, s15, s16⟩ := hsv (w.setCell ⟨c.R, 2, none⟩ (.int .i64 l)) ((Below.refl _ _).setCell hBR _)
  have HR := Lib.hid hcallR
  have HA := Lib.hid hcallA
  have HSV := Lib.hid hsv
  have hk1 : (k == 1) = false := by rw [beq_eq_false_iff_ne]; omega
  have hk2 : (k == 2) = false := by rw [beq_eq_false_iff_ne]; omega
  have hk3 : (k == 3) = false := by rw [beq_eq_false_iff_ne]; omega
  have hk4 : (k == 4) = false := by rw [beq_eq_false_iff_ne]; omega
  have hk5 : (k == 5) = false := by rw [beq_eq_false_iff_ne]; omega
  have hk6 : (k == 6) = false := by rw [beq_eq_false_iff_ne]; omega
  generalize hX : (Ex.mk k' a' b' c' d' t' ks') = X at hev HR HA HT ⊢
  have hlo : l <= lots := by unfold lots; omega
  clear hS hsv hcallR hcallA hE hE' hRt hX hR hA H F hej ht
  cases n with
  | zero => cases hev
  | succ n =>
  rw [evK_s] at hev
  by_cases k7 : k = 7
  · subst k7
    rw [if_pos rfl] at hev
    obtain ⟨tz, rfl⟩ := evR_some _ _ _ _ hev
    have hc0 := HA.out n p l tz _ (by omega) hev hp HN.out.keeps HN.out.rn hlo
    rw [show cost c.g c.s.data.toList (n + 1) (.kid 7 X) p = cost c.g c.s.data.toList n (.rep X) p from rfl]
    generalize cost c.g c.s.data.toList n (.rep X) p = C at hc0 ⊢
    have HC0 := Lib.hid hc0
    clear hc0 hev HA HR HT HSV
    go_enter Try.func55, Try.ntmps55
    go_wp2_with fail
    refine HC0.out.mono ?_
    rintro e' w2 ⟨⟨z, rfl, hz⟩, h1, h2⟩
    have hkk : KeepR c w w2 := HN.out.keeps.trans h2
    have s3 := h1.c3
    by_cases hlc : l < C
    · rw [decide_eq_true hlc] at s3 h1
      go_wp2
      go_quiet (fail)
      go_wp2
      go_ret2
      exact Gone.short (C := C) hlc (Nat.le_refl _) (h1.drewN _) (hkk.drewN _)
    · rw [decide_eq_false hlc] at s3 h1
      obtain rfl := hz hlc
      go_wp2
      go_quiet (fail)
      go_wp2
      go_ret2
      exact Gone.full (C := C) hlc (ret_some rfl) (h1.drewN _) (hkk.drewN _)
  rw [if_neg k7] at hev
  have k7b : (k == 7) = false := by rw [beq_eq_false_iff_ne]; exact k7
  cases he : ev c.g c.s.data.toList n X p with
  | none => rw [he] at hev; cases hev
  | some u =>
  rw [he] at hev
  rw [cost_kid k7 he]
  have hc0 := HR.out n p l false u _ (by omega) he hp HN.out.keeps HN.out.rn hlo
  have ht := HT.out n p u hp he
  generalize cost c.g c.s.data.toList n (.ex X) p = C at hc0 ⊢
  generalize hC2 : (u.elim 0 fun q => if k = 8 then cost c.g c.s.data.toList n (.rep X) q else 0) = C2
  have HCC := Lib.hid hC2
  have HC0 := Lib.hid hc0
  have HTT := Lib.hid ht
  have HEV := Lib.hid hev
  clear hc0 hev HR HT ht he hC2
  go_enter Try.func55, Try.ntmps55
  by_cases k8 : k = 8
  · subst k8
    go_wp2_with fail
    refine HC0.out.mono ?_
    rintro e' w2 ⟨⟨z, rfl, hz⟩, h1, h2⟩
    have hkk : KeepR c w w2 := HN.out.keeps.trans h2
    have hbx := h2.box HN.out.box (by omega)
    by_cases hlc : l < C
    · rw [if_pos hlc] at hz ⊢
      rw [decide_eq_true hlc] at h1
      go_wp2
      go_ret2
      exact Gone.short hlc (Nat.le_add_right _ _) h1 hkk
    · rw [if_neg hlc] at hz ⊢
      rw [decide_eq_false hlc] at h1
      cases u with
      | none =>
        have hev := HEV.out
        simp only [Option.some.injEq] at hev
        rw [if_pos (by simp)] at hev
        subst hev
        obtain rfl : 0 = C2 := HCC.out
        go_wp2
        go_ret2
        exact Gone.full (C := C) hlc (ret_none 0) h1 hkk
      | some q =>
        have hev := HEV.out
        simp only at hev
        rw [if_pos trivial] at hev
        obtain ⟨tz, rfl⟩ := evR_some _ _ _ _ hev
        obtain rfl := hz q rfl
        have hq := HTT.out.2.1
        have hc1 := HA.out n q (l - C) tz w2 (by omega) hev hq hkk h1 (by unfold lots; omega)
        have hcq : cost c.g c.s.data.toList n (.rep X) q = C2 := HCC.out
        rw [hcq] at hc1
        clear hcq
        have HC1 := Lib.hid hc1
        obtain ⟨y0, y1, y2, y3, y4, y5, y6⟩ := HSV.out w2 (hkk.below hB hBR)
        have x6 : w2.cell? ⟨w.heap.size, 6, none⟩ = some (.slice (some ad) 1 kcp) := hbx.cell 6
        clear hc1 hev HA HSV HC0 s10 s11 s12 s13 s14 s15 s16 s2 s3 f2
        go_wp2_with fail
        refine HC1.out.mono ?_
        rintro e' w3 ⟨⟨z, rfl, hz3⟩, h3, h4⟩
        have hk3' : KeepR c w w3 := hkk.trans h4
        have s3 := h3.c3
        by_cases hlc2 : l - C < C2
        · rw [decide_eq_true hlc2] at s3 h3
          go_wp2
          go_quiet (fail)
          go_wp2
          go_ret2
          exact Gone.short (x := C + C2) (by omega) (Nat.le_refl _) (by rw [show l - (C + C2) = l - C - C2 by omega]; exact h3.drewN _) (hk3'.drewN _)
        · rw [decide_eq_false hlc2] at s3 h3
          obtain rfl := hz3 hlc2
          go_wp2
          go_quiet (fail)
          go_wp2
          go_ret2
          exact Gone.full (by omega) (ret_some rfl) (by rw [show l - (C + C2) = l - C - C2 by omega]; exact h3.drewN _) (hk3'.drewN _)
  have hc8 : C2 = 0 := by
    rw [<- HCC.out]
    cases u with
    | none => rfl
    | some tz => rw [Option.elim_some, if_neg k8]
  subst hc8
  have k8b : (k == 8) = false := by rw [beq_eq_false_iff_ne]; exact k8
  have hk9 : k = 9 \/ k = 10 \/ k = 11 := by omega
  clear HA HSV HCC
  go_wp2_with fail
  refine HC0.out.mono ?_
  rintro e' w2 ⟨⟨z, rfl, hz⟩, h1, h2⟩
  have hkk : KeepR c w w2 := HN.out.keeps.trans h2
  have hbx := h2.box HN.out.box (by omega)
  have x0 : w2.cell? ⟨w.heap.size, 0, none⟩ = some (.int .i64 k) := hbx.cell 0
  clear s10 s11 s12 s13 s14 s15 s16 s2 s3 f2
  have s3 := h1.c3
  have hev := HEV.out
  clear HEV HC0 hbx
  by_cases hlc : l < C
  · rw [if_pos hlc] at hz ⊢
    rw [decide_eq_true hlc] at h1 s3
    rcases hk9 with rfl | rfl | rfl
    · go_wp2
      go_quiet (fail)
      go_wp2
      go_ret2
      exact Gone.short (C := C) hlc (Nat.le_refl _) (h1.drewN _) (hkk.drewN _)
    · go_wp2
      go_ret2
      exact Gone.short (C := C) hlc (Nat.le_refl _) h1 hkk
    · go_wp2
      go_quiet (fail)
      go_wp2
      go_ret2
      exact Gone.short (C := C) hlc (Nat.le_refl _) (h1.drewN _) (hkk.drewN _)
  · rw [if_neg hlc] at hz ⊢
    rw [decide_eq_false hlc] at h1 s3
    cases u with
    | none =>
      simp only [Option.some.injEq] at hev
      rcases hk9 with rfl | rfl | rfl
      · rw [if_neg (by decide)] at hev
        subst hev
        go_wp2
        go_quiet (fail)
        go_wp2
        go_ret2
        exact Gone.full (C := C) hlc (ret_some rfl) (h1.drewN _) (hkk.drewN _)
      · rw [if_pos (by decide)] at hev
        subst hev
        go_wp2
        go_ret2
        exact Gone.full (C := C) hlc (ret_none _) h1 hkk
      · rw [if_neg (by decide)] at hev
        subst hev
        go_wp2
        go_quiet (fail)
        go_wp2
        go_ret2
        exact Gone.full (C := C) hlc (ret_some rfl) (h1.drewN _) (hkk.drewN _)
    | some q =>
      obtain rfl := hz q rfl
      simp only at hev
      rcases hk9 with rfl | rfl | rfl
      · rw [if_neg (by decide), if_pos (by decide)] at hev
        simp only [Option.some.injEq] at hev
        subst hev
        go_wp2
        go_quiet (fail)
        go_wp2
        go_ret2
        exact Gone.full (C := C) hlc (ret_some rfl) (h1.drewN _) (hkk.drewN _)
      · rw [if_neg (by decide), if_neg (by decide), if_pos (by decide)] at hev
        simp only [Option.some.injEq] at hev
        subst hev
        go_wp2
        go_ret2
        exact Gone.full (C := C) hlc (ret_some rfl) h1 hkk
      · rw [if_neg (by decide), if_neg (by decide), if_neg (by decide)] at hev
        simp only [Option.some.injEq] at hev
        subst hev
        go_wp2
        go_quiet (fail)
        go_wp2
        go_ret2
        exact Gone.full (C := C) hlc (ret_none _) (h1.drewN _) (hkk.drewN _)
theorem runs {c : RC} (F : c.Fit) : ∀ n, DoesRun c n := by
  intro n
  induction n using Nat.strongRecOn with
  | _ n ih =>
  intro e p o cs w L hev hE hRt hp h hL
  cases n with
  | zero => cases hev
  | succ n =>
  have hR : ∀ m, m <= n -> DoesRun c m := fun m hm => ih m (by omega)
  have hA : ∀ m, m <= n -> DoesAgain c m := fun m hm => again_any F fun k hk => hR k (by omega)
  have hlen := F.len
  have hpos := cost_pos _ _ _ _ _ _ hev
  cases L with
  | zero =>
    have := mr_zero h cs.toArray p _ hpos o
    exact this
  | succ l =>
  obtain ⟨hrt, hwf⟩ := hRt
  cases hrt with
  | mk k a b d1 d2 t ks hfit hname hkids =>
  cases hwf with
  | mk _ _ _ _ _ _ _ hk64 wa wb wc wd wks =>
  have hRk : ∀ e ∈ ks, RtW c.g e := fun e he => ⟨hkids e he, wks e he⟩
  rw [ev_s] at hev
  rw [cost_ex]
  rcases fit_cases hfit with ⟨rfl, h0⟩ | ⟨rfl, h0⟩ | ⟨rfl, h0, _, h60⟩ | ⟨rfl, h0, _⟩ | ⟨rfl, h2, h8⟩ | ⟨rfl, h2, h8⟩ | ⟨h7, h11, h1⟩
  · rw [if_pos rfl] at hev
    injection hev with hev
    subst hev
    rw [if_pos (by omega)]
    obtain ⟨_, A, cp, rfl, _⟩ := hE.shape
    exact mr_empty h hL a b d1 d2 t A _ cp p
  · rw [if_neg (by decide), if_pos rfl] at hev
    injection hev with hev
    subst hev
    rw [if_pos (by omega)]
    obtain ⟨_, A, cp, rfl, _⟩ := hE.shape
    obtain ⟨a, rfl, ha⟩ := u64_nat wa
    obtain ⟨b, rfl, hb⟩ := u64_nat wb
    obtain ⟨d1, rfl, hc⟩ := u64_nat wc
    obtain ⟨d2, rfl, hd⟩ := u64_nat wd
    exact mr_set h hL a b d1 d2 ha hb hc hd t A ks.length cp p hp hlen
  · rw [if_neg (by decide), if_neg (by decide), if_pos rfl] at hev
    injection hev with hev
    subst hev
    rw [if_pos (by omega)]
    obtain ⟨_, A, cp, rfl, _⟩ := hE.shape
    exact mr_lit h hL a b d1 d2 t A ks.length cp p hp hlen (by have : t.data.toList.length = t.size := size_list t; omega)
  · rw [if_neg (by decide), if_neg (by decide), if_neg (by decide), if_pos rfl] at hev
    rw [if_neg (by decide), if_pos rfl]
    obtain ⟨_, A, cp, rfl, _⟩ := hE.shape
    obtain ⟨r, hr, _⟩ := fnd_at (hname rfl)
    rw [hr] at hev ⊢
    simp only at hev ⊢
    obtain ⟨j, hj⟩ := Int.eq_ofNat_of_zero_le (hname rfl)
    rw [hj] at hr
    have hr' : c.g[j]? = some r := hr
    refine mr_ref h hL a b d1 d2 t A ks.length cp p _ o j hj (getElem?_lt hr') (fun r' cs' W hr2 hE' hW => ?_)
    rw [hr'] at hr2
    injection hr2 with hr2
    subst hr2
    exact hR n (Nat.le_refl _) r.2 p o cs' W l hev hE' ⟨F.right.rt r (List.mem_of_getElem? hr'), F.wf r (List.mem_of_getElem? hr')⟩ hp hW (by omega)
  · rw [if_neg (by decide), if_neg (by decide), if_neg (by decide), if_neg (by decide), if_pos rfl] at hev
    rw [if_neg (by decide), if_neg (by decide), if_pos rfl]
    exact mr_seq F hR h hL a b d1 d2 t ks p o cs hev hE hRk hp
  · rw [if_neg (by decide), if_neg (by decide), if_neg (by decide), if_neg (by decide), if_neg (by decide), if_pos rfl] at hev
    rw [if_neg (by decide), if_neg (by decide), if_neg (by decide), if_pos rfl]
    exact mr_alt hR h hL a b d1 d2 t ks p o cs hev hE hRk hp
  · rw [if_neg (by omega), if_neg (by omega), if_neg (by omega), if_neg (by omega), if_neg (by omega), if_neg (by omega)] at hev
    rw [if_neg (by omega), if_neg (by omega), if_neg (by omega), if_neg (by omega)]
    cases ks with
    | nil => simp at h1
    | cons e es =>
      have hes : es = [] := by
        cases es with
        | nil => rfl
        | cons x xs => simp at h1
      subst hes
      simp only at hev ⊢
      exact mr_one F hR hA h hL k a b d1 d2 t e p o cs h7 h11 hev hE (hRk e (by simp)) hp
def MRunR (g : List Rl) (s : ByteArray) (steps : Int) (C : Nat) (o v : Option Nat) (n x : Int) : Prop :=
  (lookG g s ≠ 0 /\ v = none /\ n = 0 /\ x = lookG g s) \/ (lookG g s = 0 /\ (steps < 0 \/ 1048576 < steps) /\ v = none /\ n = 0 /\ x = 1) \/
  (lookG g s = 0 /\ 0 <= steps /\ steps <= 1048576 /\ steps < C /\ v = none /\ n = 0 /\ x = 10) \/
  (lookG g s = 0 /\ (C : Int) <= steps /\ steps <= 1048576 /\ v = o /\ n = C /\ x = 0)
def MRunQ (g : List Rl) (s : ByteArray) (steps : Int) (C : Nat) (o : Option Nat) (w : World) (e : Ending) (w' : World) : Prop := ∃ v n x, MRunR g s steps C o v n x /\ e = .returned (.tuple #[outV v, .int .i64 n, .int .i64 x]) /\ Below w.heap.size w w'
def Costs (g : List Rl) (s : ByteArray) (C : Nat) (o : Option Nat) : Prop := lookG g s = 0 -> ∃ (n : Nat) (r : Rl), g[0]? = some r /\ ev g s.data.toList n r.2 0 = some o /\ C = cost g s.data.toList n (.ex r.2) 0
theorem costs (g : List Rl) (s : ByteArray) : ∃ C o, Costs g s C o := by
  by_cases h : lookG g s = 0
  · obtain ⟨W, h60⟩ := look_zero h
    have hpos := W.right.pos
    obtain ⟨r, hr⟩ : ∃ r, g[0]? = some r := ⟨_, List.getElem?_eq_getElem hpos⟩
    obtain ⟨n, o, he⟩ := ends (s := s.data.toList) W (p := 0) (by omega) (W.good (List.mem_of_getElem? hr))
    exact ⟨_, o, fun _ => ⟨n, r, hr, he, rfl⟩⟩
  · exact ⟨0, none, fun h' => absurd h' h⟩
end Go.Proofs.Ytkmcnekjimobhaa
