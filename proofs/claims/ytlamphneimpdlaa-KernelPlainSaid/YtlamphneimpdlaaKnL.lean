/- chaffkeep.kinds, where it asks for EPlus, EOpt, EAnd. -/
import Derived.Test.YtlamphneimpdlaaKnK
import Derived.Test.YtlamphneimpdlaaIxI
namespace Go.Proofs.Ytlamphneimpdlaa
open Go.RowKit

/-- the three kinds that are asked for -/
def L3 : List Int := [8, 9, 10]
/-- the list of them -/
def L3B (lb : Nat) (W : World) : Prop := Blk W lb 3 #[.int .i64 8, .int .i64 9, .int .i64 10]
theorem L3B.reads {lb : Nat} {W : World} (h : L3B lb W) : Reads W (lb + 1) 1 (some ⟨lb, 0, none⟩) 3 (ints L3) := reads_block (cs := #[.int .i64 8, .int .i64 9, .int .i64 10]) h rfl rfl (by omega)
def KindsX (e : Ex) : Prop := ∀ (cs : List Value) (lb : Nat) (w : World), ExIs w w.heap.size e cs → L3B lb w → Calls Try.prog 53 #[.agg cs.toArray, .slice (some ⟨lb, 0, none⟩) 3 3] w fun r w' => r = .returned (.bool (kindsE e)) ∧ Below w.heap.size w w'

set_option maxRecDepth 100000 in
/-- the closure -/
theorem kindsc_any {e : Ex} (ih : KindsX e) {k a b c d : Int} {t : ByteArray} {A : Option Addr} {n cp lb bb : Nat} {w : World} (he : ExIs w w.heap.size e (exCells k a b c d t A n cp)) (hl : L3B lb w) (hb : Blk w bb 48 #[.slice (some ⟨lb, 0, none⟩) 3 3]) :
    Calls Try.prog 91 #[.agg #[.int .i64 k, .int .u64 a, .int .u64 b, .int .u64 c, .int .u64 d, .string t, .slice A n cp], .pointer (some ⟨bb, 0, none⟩)] w fun r w' => r = .returned (.bool (kindsE e)) ∧ Below w.heap.size w w' := by
  have hc := fun (W : World) (hW : Below w.heap.size w W) => ih _ lb W (he.grow hW) (Blk.below hl hW (Blk.lt hl))
  unfold exCells at hc
  have HC := Lib.hid hc
  have hbb := hb.lt
  have b0 : w.cell? ⟨bb, 0, none⟩ = some (.slice (some ⟨lb, 0, none⟩) 3 3) := hb.cell 0
  clear hc ih he hl hb
  generalize kindsE e = x at HC
  go_enter Try.func91, Try.ntmps91
  go_wp2_with fail
  refine (HC.out _ (by repeat (first | exact Below.refl _ _ | assumption | refine Below.drew ?_ | refine below_drewN ?_ _ | refine Below.alloc ?_ (by first | omega | (simp; omega) | simp) _ | refine Below.setCell ?_ (by first | omega | (simp; omega) | simp) _))).mono ?_
  rintro e w2 ⟨rfl, hb2⟩
  have hw2 : Below w.heap.size w w2 := Below.trans (by repeat (first | exact Below.refl _ _ | assumption | refine Below.drew ?_ | refine below_drewN ?_ _ | refine Below.alloc ?_ (by first | omega | (simp; omega) | simp) _ | refine Below.setCell ?_ (by first | omega | (simp; omega) | simp) _)) (hb2.mono (by first | omega | (simp; omega) | simp)); have hzw2 := hw2.size; clear hb2
  go_wp2
  go_ret
  exact ⟨rfl, hw2⟩

set_option maxRecDepth 100000 in
set_option maxHeartbeats 4000000 in
theorem indexX_any {k0 a0 b0 c0 d0 : Int} {t0 : ByteArray} {ks : List Ex} (ih : ∀ e ∈ ks, KindsX e) {A : Option Addr} {cp lb bb : Nat} {w : World} (h : ExIs w w.heap.size (.mk k0 a0 b0 c0 d0 t0 ks) (exCells k0 a0 b0 c0 d0 t0 A ks.length cp)) (hl : L3B lb w) (hb : Blk w bb 48 #[.slice (some ⟨lb, 0, none⟩) 3 3]) :
    Calls Try.prog 119 #[.slice A ks.length cp, .func (.func 91) #[] #[.pointer (some ⟨bb, 0, none⟩)]] w fun r w' => (∃ i : Int, r = .returned (.int .i64 i) ∧ (decide (0 ≤ i) = kindsEs ks)) ∧ Below w.heap.size w w' := by
  have hlen := h.len.2.2
  have hmx := hlen.2.1
  have hmn := hlen.1
  unfold maxLen at hmx
  have IH := Lib.hid ih
  have H1 := Lib.hid h
  clear ih h hlen
  have HX : Hid (kindsEs ks = kindsEs (ks.drop 0)) := rfl
  go_enter Try.func119, Try.ntmps119
  go_wp2
  go_loopw [5, 8] (fun _ i wr => ∃ j : Nat, j ≤ ks.length ∧ i = .int .i64 j ∧ Hid (kindsEs ks = kindsEs (ks.drop j)) ∧ Below w.heap.size w wr) (fun _ i _ => ks.length - (intOf i).toNat)
  case atStart => exact ⟨0, by omega, rfl, HX, Below.refl _ _⟩
  case round =>
    obtain ⟨j, hj, rfl, HR, hwr⟩ := hrel
    have hwz := hwr.size
    by_cases hjn : j < ks.length
    · obtain ⟨ad, k1, a1, b1, c1, d1, t1, ks1, A1, cp1, rfl, hab, hej, hx, hS⟩ := H1.out.kid (j := j) (by omega)
      have hk := fun (q : Addr) (hq : q.block = (ad.add (j * 7)).block) => hwr.cell (p := q) (by rw [hq, add_block]; omega)
      have y0 := (hk _ rfl).trans hS.c0
      have y1 := (hk ⟨_, _, none⟩ rfl).trans hS.c1
      have y2 := (hk ⟨_, _, none⟩ rfl).trans hS.c2
      have y3 := (hk ⟨_, _, none⟩ rfl).trans hS.c3
      have y4 := (hk ⟨_, _, none⟩ rfl).trans hS.c4
      have y5 := (hk ⟨_, _, none⟩ rfl).trans hS.c5
      have y6 := (hk ⟨_, _, none⟩ rfl).trans hS.c6
      have hcall := fun (W : World) (hW : Below w.heap.size w W) => kindsc_any (IH.out _ (List.mem_of_getElem? hej)) (hx.grow hW) (Blk.below hl hW (Blk.lt hl)) (hb.below hW hb.lt)
      have HD : Hid (kindsEs (ks.drop j) = (kindsE (.mk k1 a1 b1 c1 d1 t1 ks1) || kindsEs (ks.drop (j + 1)))) := by show _ = _; rw [drop_of hej, kindsEs]
      have HC := Lib.hid hcall
      clear hcall hk hS hx hej
      generalize kindsE (.mk k1 a1 b1 c1 d1 t1 ks1) = x at HC HD
      go_wp2_with fail
      refine (HC.out _ hwr).mono ?_
      rintro e w2 ⟨rfl, hb2⟩
      have hw2 : Below w.heap.size w w2 := hwr.trans (hb2.mono hwz)
      clear hb2
      cases x
      · go_wp2
        go_roundw
        case rel => exact ⟨j + 1, by omega, by go_num, HR.out.trans (by rw [HD.out, Bool.false_or]), hw2⟩
        case measure => simp [intOf]; omega
      · go_wp2
        go_ret
        exact ⟨⟨j, rfl, by rw [HR.out, HD.out]; simp⟩, hw2⟩
    · obtain rfl : j = ks.length := by omega
      go_wp2
      go_ret
      exact ⟨⟨-1, rfl, by rw [HR.out, List.drop_length, kindsEs]; rfl⟩, hwr⟩
set_option maxRecDepth 100000 in
theorem containsX_any {k0 a0 b0 c0 d0 : Int} {t0 : ByteArray} {ks : List Ex} (ih : ∀ e ∈ ks, KindsX e) {A : Option Addr} {cp lb bb : Nat} {w : World} (h : ExIs w w.heap.size (.mk k0 a0 b0 c0 d0 t0 ks) (exCells k0 a0 b0 c0 d0 t0 A ks.length cp)) (hl : L3B lb w) (hb : Blk w bb 48 #[.slice (some ⟨lb, 0, none⟩) 3 3]) :
    Calls Try.prog 90 #[.slice A ks.length cp, .func (.func 91) #[] #[.pointer (some ⟨bb, 0, none⟩)]] w fun r w' => r = .returned (.bool (kindsEs ks)) ∧ Below w.heap.size w w' := by
  have hi := indexX_any ih h hl hb
  have HI := Lib.hid hi
  clear hi ih h hl hb
  go_enter Try.func90, Try.ntmps90
  go_wp2_with fail
  refine HI.out.mono ?_
  rintro e w1 ⟨⟨i, rfl, hi⟩, hb1⟩
  have HIX := Lib.hid hi
  clear hi
  go_wp2
  go_ret
  exact ⟨ret_bool HIX.out, hb1⟩
set_option maxRecDepth 100000 in
set_option maxHeartbeats 4000000 in
theorem kinds_any (e : Ex) : KindsX e := by
  refine Ex.ind (P := KindsX) ?_ e
  intro k a b c d t ks ih cs lb w he hl
  obtain ⟨_, A, cp, rfl, -⟩ := he.shape
  have hct := fun (W : World) (hW : Below w.heap.size w W) => containsZ_any (some ⟨lb, 0, none⟩) 3 3 L3 k (lb + 1) W (L3B.reads (Blk.below hl hW (Blk.lt hl))) (by unfold Small; omega)
  have hcx := fun (W : World) (hW : Below w.heap.size w W) (bb : Nat) (hb : Blk W bb 48 #[.slice (some ⟨lb, 0, none⟩) 3 3]) => containsX_any ih (he.grow hW) (Blk.below hl hW (Blk.lt hl)) hb
  have HF : Hid (kindsE (.mk k a b c d t ks) = (decide (k ∈ L3) || kindsEs ks)) := by
    show _ = _
    rw [kindsE]
    congr 1
    simp [L3]
  have HCT := Lib.hid hct
  have HCX := Lib.hid hcx
  clear hct hcx ih he hl
  generalize kindsE (.mk k a b c d t ks) = z at HF ⊢
  generalize kindsEs ks = y at HF HCX
  unfold exCells
  cases hx : decide (k ∈ L3)
  · rw [hx] at HF HCT
    have hbb : Blk ((w.alloc (.cells #[.int .i64 k, .int .u64 a, .int .u64 b, .int .u64 c, .int .u64 d, .string t, .slice A ks.length cp] 35)).alloc (.cells #[.slice (some ⟨lb, 0, none⟩) 3 3] 48)) (w.heap.size + 1) 48 #[.slice (some ⟨lb, 0, none⟩) 3 3] := blk_at (by simp)
    clear hx
    go_enter Try.func53, Try.ntmps53
    go_wp2_with fail
    refine (HCT.out _ (by repeat (first | exact Below.refl _ _ | assumption | refine Below.drew ?_ | refine below_drewN ?_ _ | refine Below.alloc ?_ (by first | omega | (simp; omega) | simp) _ | refine Below.setCell ?_ (by first | omega | (simp; omega) | simp) _))).mono ?_
    rintro e w1 ⟨rfl, rfl⟩
    go_wp2_with fail
    refine (HCX.out _ (by repeat (first | exact Below.refl _ _ | assumption | refine Below.drew ?_ | refine below_drewN ?_ _ | refine Below.alloc ?_ (by first | omega | (simp; omega) | simp) _ | refine Below.setCell ?_ (by first | omega | (simp; omega) | simp) _)) _ hbb).mono ?_
    rintro e w1 ⟨rfl, hb1⟩
    have hw1 : Below w.heap.size w w1 := Below.trans (by repeat (first | exact Below.refl _ _ | assumption | refine Below.drew ?_ | refine below_drewN ?_ _ | refine Below.alloc ?_ (by first | omega | (simp; omega) | simp) _ | refine Below.setCell ?_ (by first | omega | (simp; omega) | simp) _)) (hb1.mono (by first | omega | (simp; omega) | simp))
    clear hb1
    go_wp2
    go_ret
    exact ⟨ret_bool (by rw [HF.out]; rfl), hw1⟩
  · rw [hx] at HF HCT
    clear hx
    go_enter Try.func53, Try.ntmps53
    go_wp2_with fail
    refine (HCT.out _ (by repeat (first | exact Below.refl _ _ | assumption | refine Below.drew ?_ | refine below_drewN ?_ _ | refine Below.alloc ?_ (by first | omega | (simp; omega) | simp) _ | refine Below.setCell ?_ (by first | omega | (simp; omega) | simp) _))).mono ?_
    rintro e w1 ⟨rfl, rfl⟩
    go_wp2
    go_ret
    exact ⟨ret_bool (by rw [HF.out]; rfl), (by repeat (first | exact Below.refl _ _ | assumption | refine Below.drew ?_ | refine below_drewN ?_ _ | refine Below.alloc ?_ (by first | omega | (simp; omega) | simp) _ | refine Below.setCell ?_ (by first | omega | (simp; omega) | simp) _))⟩
end Go.Proofs.Ytlamphneimpdlaa
