/- What tree.write and tree.Text answer. What the functions of package set that go word by word answer. What set.Join and set.Meet answer. What set.Not and set.Range answer. A parser that remembers: plain. Its state, and what each of its calls makes of it, by fuel. -/
import Derived.Test.YtkmcnekjimobhaaDoorJTreeCounts5
import Derived.Test.YtkmcnekjimobhaaDoorJTreeCounts4
import Derived.Test.YtkmcnekjimobhaaDoorJTreeCounts0
import Derived.Test.YtkmcnekjimobhaaDoorProg
import Derived.Deep.RegionHeld3
import Derived.Deep.RegionWith
namespace Go.Proofs.YtkmcnekjimobhaaDoor
open Go.RowKit

theorem Bld.below {B b : Nat} {l : List UInt8} {W W' : World} (h : Bld B b l W) (hb : Below W.heap.size W W') : Bld B b l W' := by
  have key : ∀ p, Lib.BuilderAtF 46 5 B b p (Lib.byteCells l) W → Lib.BuilderAtF 46 5 B b p (Lib.byteCells l) W' := fun p hA => by
    have hlt := hA.lt
    obtain ⟨hB, v, hbk, hown, hne⟩ := hA
    exact ⟨hB, v, (hb.block b hlt).trans hbk, hown.kept (row := none) ⟨hb.os, hb.tape, hb.output, hb.size, fun k hk _ => hb.block k hk⟩ (by cases v.ownBlock <;> simp), hne⟩
  exact h.imp (key _) (key _)
theorem Bld.lt {B b : Nat} {l : List UInt8} {W : World} (h : Bld B b l W) : b < W.heap.size := h.elim (fun h => h.lt) fun h => h.lt
theorem kept_below {b : Nat} {w W W' : World} (h : BldKept b w W) (hb : Below W.heap.size W W') : BldKept b w W' := fun k o hk hne ho => by
  have h1 := h k o hk hne ho
  have hlt := (Array.getElem?_eq_some_iff.1 h1).1
  exact (hb.block k hlt).trans h1
theorem Blk.bldKept {b g : Nat} {T : TypeId} {cs : Array Value} {W W' : World} (h : Blk W g T cs) (hk : BldKept b W W') (hg : g ≠ b) (hT : T ≠ 5) : Blk W' g T cs :=
  hk g _ h (fun e => hg (by injection e)) fun c fz e => by
    injection e with _ e
    exact hT e
theorem txL_snoc (t : Tr) : ∀ (ts : List Tr) (b : Bool), txL (ts ++ [t]) b = txL ts b ++ ((if (b && ts.isEmpty) then 40 else 32) :: txI t)
  | [], b => by cases b <;> simp [txL]
  | x :: ts, b => by
    rw [List.cons_append, txL, txL, txL_snoc t ts false]
    simp

theorem t64L_at : ∀ (ts : List Tr) {j : Nat} {e : Tr}, t64L ts → ts[j]? = some e → t64 e
  | [], j, e, _, h => by simp at h
  | t :: ts, 0, e, h, he => by
    rw [t64L] at h
    simp at he
    rw [← he]
    exact h.1
  | t :: ts, j + 1, e, h, he => by
    rw [t64L] at h
    exact t64L_at ts h.2 (by simpa using he)
theorem t64L_take : ∀ (ts : List Tr) (j : Nat), t64L ts → t64L (ts.take j)
  | [], j, _ => by rw [List.take_nil, t64L]; trivial
  | t :: ts, 0, _ => by rw [List.take_zero, t64L]; trivial
  | t :: ts, j + 1, h => by
    rw [t64L] at h
    rw [List.take_succ_cons, t64L]
    exact ⟨h.1, t64L_take ts j h.2⟩
theorem trAll_take_succ (ts : List Tr) (j : Nat) {e : Tr} (h : ts[j]? = some e) : trAll (ts.take (j + 1)) = trAll (ts.take j) + trNodes e := by
  rw [take_succ_of h, trAll_appC]
  simp [trAll]
/-- while a tree is written -/
structure WrS (cs : Array Value) (w : World) (B b : Nat) (l : List UInt8) (W : World) : Prop where
  box : Blk W w.heap.size 28 cs
  bld : Bld B b l W
  bel : Below B w W
  kept : BldKept b w W
  sz : w.heap.size < W.heap.size
section
variable {cs : Array Value} {w : World} {B b : Nat} {l : List UInt8} {W W' : World}
theorem WrS.below (h : WrS cs w B b l W) (hB : B ≤ w.heap.size) (hb : Below W.heap.size W W') : WrS cs w B b l W' :=
  ⟨h.box.below hb h.box.lt, h.bld.below hb, h.bel.trans (hb.mono (Nat.le_trans hB (Nat.le_of_lt h.sz))), kept_below h.kept hb, Nat.lt_of_lt_of_le h.sz hb.size⟩
theorem WrS.put {l' : List UInt8} (h : WrS cs w B b l W) (hw : b < w.heap.size) (h1 : Bld B b l' W') (h2 : Below B W W') (h3 : BldKept b W W') : WrS cs w B b l' W' :=
  ⟨h.box.bldKept h3 (by omega) (by decide), h1, h.bel.trans h2, h.kept.trans h3, Nat.lt_of_lt_of_le h.sz h2.size⟩
end

set_option maxRecDepth 100000 in
set_option maxHeartbeats 8000000 in
theorem write_any (t : Tr) : ∀ (cs : List Value) (w : World) (S : Nat → Prop) (B b : Nat) (l : List UInt8), TrIs w S t cs → (∀ q, S q → q < B) → B ≤ w.heap.size → 3 < B → Bld B b l w → TabP w → t64 t → l.length + 68 * trNodes t ≤ 140737488355328 →
    Calls Tryd.prog 12 #[.agg cs.toArray, .pointer (some ⟨b, 0, none⟩)] w fun e w' => e = .returned (.tuple #[]) ∧ Bld B b (l ++ txI t) w' ∧ Below B w w' ∧ BldKept b w w' := by
  refine Tr.ind (P := fun t => ∀ (cs : List Value) (w : World) (S : Nat → Prop) (B b : Nat) (l : List UInt8), TrIs w S t cs → (∀ q, S q → q < B) → B ≤ w.heap.size → 3 < B → Bld B b l w → TabP w → t64 t → l.length + 68 * trNodes t ≤ 140737488355328 →
    Calls Tryd.prog 12 #[.agg cs.toArray, .pointer (some ⟨b, 0, none⟩)] w fun e w' => e = .returned (.tuple #[]) ∧ Bld B b (l ++ txI t) w' ∧ Below B w w' ∧ BldKept b w w') ?_ t
  intro r f u ks ih cs w S B b l ht hS hB hgB hbl hT h64 hlen
  obtain ⟨A, cp, rfl, hK⟩ := ht.kids
  rw [t64] at h64
  obtain ⟨⟨hr, hf, hu⟩, h64⟩ := h64
  rw [trNodes] at hlen
  have hbw := hbl.lt
  have hl21r : (itoaB r).size ≤ 21 := by rw [itoaB_size]; exact itoa_21 hr
  have hl21f : (itoaB f).size ≤ 21 := by rw [itoaB_size]; exact itoa_21 hf
  have hl21u : (itoaB u).size ≤ 21 := by rw [itoaB_size]; exact itoa_21 hu
  have hI := fun (n : Int) (hn : I64 n) (W : World) (hW : Below B w W) => (sh_strconv_Itoa n hn.1 hn.2 W (hT.below hgB hW)).mono (R' := fun e w' => e = .returned (.string (itoaB n)) ∧ Below W.heap.size W w') fun e w' ⟨he, k, os, hk⟩ => ⟨he, by rw [hk]; exact grow_below2 _ _ _⟩
  have HIR := Lib.hid (hI r hr)
  have HIF := Lib.hid (hI f hf)
  have HIU := Lib.hid (hI u hu)
  have hst : WrS #[.int .i64 r, .int .i64 f, .int .i64 u, .slice A ks.length cp] w B b l (w.alloc (.cells #[.int .i64 r, .int .i64 f, .int .i64 u, .slice A ks.length cp] 28)) :=
    ⟨blk_at rfl, hbl.below ((Below.refl _ _).alloc (Nat.le_refl _) _), (Below.refl _ _).alloc hB _, kept_below (Lib.OthersKept.refl _ _ _) ((Below.refl _ _).alloc (Nat.le_refl _) _), by simp⟩
  have HST := Lib.hid hst
  have htx : txI (.mk r f u ks) = ((itoaB r ++ ⟨#[58]⟩ ++ itoaB f ++ ⟨#[45]⟩ ++ itoaB u).data.toList ++ txL ks true) ++ (if ks.length = 0 then [] else [41]) := by
    rw [txI]
    simp [itoaB, List.append_assoc]
  have hhl : (itoaB r ++ ⟨#[58]⟩ ++ itoaB f ++ ⟨#[45]⟩ ++ itoaB u).size ≤ 65 := by
    simp only [ByteArray.size_append]
    have h1 : (⟨#[58]⟩ : ByteArray).size = 1 := rfl
    have h2 : (⟨#[45]⟩ : ByteArray).size = 1 := rfl
    omega
  have HTX := Lib.hid htx
  have hnm : (itoaB r ++ ⟨#[58]⟩ ++ itoaB f ++ ⟨#[45]⟩ ++ itoaB u).data.toList.length = (itoaB r ++ ⟨#[58]⟩ ++ itoaB f ++ ⟨#[45]⟩ ++ itoaB u).size := size_list _
  have HQ : Hid (∀ W', Bld B b (l ++ txI (.mk r f u ks)) W' → Below B w W' → BldKept b w W' → (fun (e : Ending) w' => e = .returned (.tuple #[]) ∧ Bld B b (l ++ txI (.mk r f u ks)) w' ∧ Below B w w' ∧ BldKept b w w') (.returned (.tuple #[])) W') := fun W' h1 h2 h3 => ⟨rfl, h1, h2, h3⟩
  generalize (fun (e : Ending) w' => e = .returned (.tuple #[]) ∧ Bld B b (l ++ txI (.mk r f u ks)) w' ∧ Below B w w' ∧ BldKept b w w') = Q at HQ ⊢
  have hL64 := txL_len ks true h64
  have HI := Lib.hid (fun (j : Nat) (e : Tr) (he : ks[j]? = some e) (cs : List Value) (W : World) (l' : List UInt8) (hT' : TrIs W S e cs) (hW : Below B w W) (hb' : Bld B b l' W) (hl' : l'.length + 68 * trNodes e ≤ 140737488355328) => ih e (List.mem_of_getElem? he) cs W S B b l' hT' hS (Nat.le_trans hB hW.size) hgB hb' (hT.below hgB hW) (t64L_at ks h64 he) hl')
  have HK := Lib.hid hK
  clear hI hst htx hT hbl ih ht hK
  go_enter Tryd.func12, Tryd.ntmps12
  go_wp2_with fail
  refine wp_region_t (WrS #[.int .i64 r, .int .i64 f, .int .i64 u, .slice A ks.length cp] w B b l) 14 (by kernel_rfl) (by kernel_rfl) (HST.out.below hB (Below.refl _ _).drew) ?_
  simp only [List.take_succ_cons, List.take_zero]
  repeat
    (first | ((with_reducible apply QW.free rfl); · (intro W hW; have x0 := hW.box.cell 0; have x1 := hW.box.cell 1; have x2 := hW.box.cell 2; go_simp; first | (go_at_call 22; first | (refine (HIR.out _ hW.bel).mono ?_; exact fun e w' h => ⟨h.1, hW.below hB h.2⟩) | (refine (HIF.out _ hW.bel).mono ?_; exact fun e w' h => ⟨h.1, hW.below hB h.2⟩) | (refine (HIU.out _ hW.bel).mono ?_; exact fun e w' h => ⟨h.1, hW.below hB h.2⟩)) | rfl | (rw [if_neg (by first | omega | (simp only [ByteArray.size_append]; omega))]; exact ⟨rfl, rfl⟩))) | ((with_reducible apply QW.skip rfl); · (first | exact ⟨_, _, rfl, rfl, .inl rfl⟩ | exact ⟨_, _, rfl, rfl, .inr rfl⟩)) | ((with_reducible apply QW.take rfl); (· exact ⟨_, rfl, rfl⟩); (· (intro W hW; have x0 := hW.box.cell 0; have x1 := hW.box.cell 1; have x2 := hW.box.cell 2; go_simp; first | (go_at_call 22; first | (refine (HIR.out _ hW.bel).mono ?_; exact fun e w' h => ⟨h.1, hW.below hB h.2⟩) | (refine (HIF.out _ hW.bel).mono ?_; exact fun e w' h => ⟨h.1, hW.below hB h.2⟩) | (refine (HIU.out _ hW.bel).mono ?_; exact fun e w' h => ⟨h.1, hW.below hB h.2⟩)) | rfl | (rw [if_neg (by first | omega | (simp only [ByteArray.size_append]; omega))]; exact ⟨rfl, rfl⟩))))); (try simp only [Act.put, List.setIfInBounds_toArray, List.set_cons_zero, List.set_cons_succ])
  refine QW.nil ?_
  intro wr h1
  simp only [List.drop]
  have hB1 := Nat.le_trans hB (Nat.le_of_lt h1.sz)
  generalize itoaB r ++ ⟨#[58]⟩ ++ itoaB f ++ ⟨#[45]⟩ ++ itoaB u = hd at HTX hhl hnm ⊢
  go_wp2_with fail
  refine (wrs_any B b l hd wr h1.bld (by omega) hB1).mono ?_
  rintro e w2 ⟨rfl, q1, q2, q3⟩
  have h2 := h1.put hbw q1 q2 q3
  have x3 : w2.cell? ⟨w.heap.size, 3, none⟩ = some (.slice A ks.length cp) := h2.box.cell 3
  have hlk : (ks.length : Int) ≤ 9223372036854775807 := by have h1 := HK.out.2.1; have h2 := HK.out.2.2.1; unfold maxLen at h2; omega
  have HST2 : Hid (WrS #[.int .i64 r, .int .i64 f, .int .i64 u, .slice A ks.length cp] w B b (l ++ hd.data.toList ++ txL (ks.take 0) true) w2) := by
    rw [List.take_zero, txL, List.append_nil]
    exact h2
  clear q1 q2 q3 h1 h2 HST HIR HIF HIU hB1
  go_wp2
  go_loopw [4, 5, 24] (fun _ _ i wr => ∃ j : Nat, j ≤ ks.length ∧ i = .int .i64 j ∧ WrS #[.int .i64 r, .int .i64 f, .int .i64 u, .slice A ks.length cp] w B b (l ++ hd.data.toList ++ txL (ks.take j) true) wr) (fun _ _ i _ => ks.length - (intOf i).toNat)
  case atStart => exact ⟨0, by omega, rfl, HST2.out⟩
  case round =>
    obtain ⟨j, hj, rfl, hW⟩ := hrel
    by_cases hjk : j < ks.length
    · obtain ⟨ad, r', f', u', ks', A', cp', rfl, hab, hej, hT2, e0, e1, e2, e3⟩ := (HK.out.keep (fun _ h => h) (fun p hp => hW.bel.cell (hS _ hp))).at_ hjk
      have hab' := hS _ hab
      have hwz := hW.sz
      have hjl : (j : Int) < (ks.length : Int) := by omega
      have hlj := txL_len (ks.take j) true (t64L_take ks j h64)
      have hnj := trAll_take_succ ks j hej
      have htk := trAll_take ks (j + 1)
      have HSN : Hid (txL (ks.take (j + 1)) true = txL (ks.take j) true ++ ((if j = 0 then 40 else 32) :: txI (.mk r' f' u' ks'))) := by
        show _ = _
        rw [take_succ_of hej, txL_snoc]
        have : (true && (ks.take j).isEmpty) = decide (j = 0) := by
          cases j with
          | zero => simp
          | succ j => cases ks with
            | nil => simp at hjk
            | cons => simp
        rw [this]
        simp
      have hlt : (l ++ hd.data.toList ++ txL (ks.take j) true).length + 1 + 68 * trNodes (.mk r' f' u' ks') ≤ 140737488355328 := by
        simp only [List.length_append]
        omega
      have hwb : wr.heap.size ≠ b := by omega
      have hk5 : Blk ((wr.alloc (.cells #[.int .i64 r', .int .i64 f', .int .i64 u', .slice A' ks'.length cp'] 28)).alloc (.cells #[.string ⟨#[40]⟩, .string ⟨#[32]⟩] 9)) wr.heap.size 28 #[.int .i64 r', .int .i64 f', .int .i64 u', .slice A' ks'.length cp'] := (blk_at rfl).alloc _
      have hW1 := (hW.below hB ((Below.refl _ wr).alloc (Nat.le_refl _) (.cells #[.int .i64 r', .int .i64 f', .int .i64 u', .slice A' ks'.length cp'] 28))).below hB ((Below.refl _ _).alloc (Nat.le_refl _) (.cells #[.string ⟨#[40]⟩, .string ⟨#[32]⟩] 9))
      have HEJ := Lib.hid hej
      have HT2 := Lib.hid (fun (W : World) (hb : Below B wr W) => hT2.keep (w' := W) (fun _ h => h) fun p hp => hb.cell (hS _ hp))
      have hw1B : Below B wr ((wr.alloc (.cells #[.int .i64 r', .int .i64 f', .int .i64 u', .slice A' ks'.length cp'] 28)).alloc (.cells #[.string ⟨#[40]⟩, .string ⟨#[32]⟩] 9)) := ((Below.refl _ _).alloc (by omega) _).alloc (by simp; omega) _
      have HW1 := Lib.hid hW1
      have HK5 := Lib.hid hk5
      have HWB := Lib.hid hw1B
      clear hej hT2 hW1 hk5 hw1B hlj hnj htk hW
      obtain ⟨m, hmin, hm⟩ : ∃ m : Int, min (j : Int) 1 = m ∧ ((m = 0 ∧ Hid (j = 0)) ∨ (m = 1 ∧ Hid (j ≠ 0))) := by
        by_cases h0 : j = 0
        · exact ⟨0, by omega, .inl ⟨rfl, h0⟩⟩
        · exact ⟨1, by omega, .inr ⟨rfl, h0⟩⟩
      rcases hm with ⟨rfl, hj0⟩ | ⟨rfl, hj0⟩
      all_goals (
        go_wp2_with fail
        refine (wrs_any B b _ _ _ HW1.out.bld (by have e1 : (⟨#[40]⟩ : ByteArray).size = 1 := rfl; have e2 : (⟨#[32]⟩ : ByteArray).size = 1 := rfl; omega) (by simp; omega)).mono ?_
        rintro e w3 ⟨rfl, q1, q2, q3⟩
        have hW2 := HW1.out.put hbw q1 q2 q3
        have hk6 := HK5.out.bldKept q3 hwb (by decide)
        have hb3 : Below B wr w3 := HWB.out.trans q2
        have y0 : w3.cell? ⟨wr.heap.size, 0, none⟩ = some (.int .i64 r') := hk6.cell 0
        have y1 : w3.cell? ⟨wr.heap.size, 1, none⟩ = some (.int .i64 f') := hk6.cell 1
        have y2 : w3.cell? ⟨wr.heap.size, 2, none⟩ = some (.int .i64 u') := hk6.cell 2
        have y3 : w3.cell? ⟨wr.heap.size, 3, none⟩ = some (.slice A' ks'.length cp') := hk6.cell 3
        have hcall := HI.out j _ HEJ.out [.int .i64 r', .int .i64 f', .int .i64 u', .slice A' ks'.length cp'] w3 _ (HT2.out w3 hb3) hW2.bel hW2.bld (by
          rw [List.length_append]
          have e1 : (⟨#[40]⟩ : ByteArray).data.toList.length = 1 := rfl
          have e2 : (⟨#[32]⟩ : ByteArray).data.toList.length = 1 := rfl
          omega)
        have HCL := Lib.hid hcall
        have HW2 := Lib.hid hW2
        clear q1 q2 q3 hk6 hb3 hcall hW2
        go_wp2_with fail
        refine HCL.out.mono ?_
        rintro e w4 ⟨rfl, q1, q2, q3⟩
        have hW3 := HW2.out.put hbw q1 q2 q3
        have hW4 : WrS #[.int .i64 r, .int .i64 f, .int .i64 u, .slice (some ad) ks.length cp] w B b (l ++ hd.data.toList ++ txL (ks.take (j + 1)) true) w4 := by
          have hj0' := hj0.out
          rw [HSN.out]
          first | rw [if_pos hj0'] | rw [if_neg hj0']
          simpa [List.append_assoc] using hW3
        have HW3 := Lib.hid hW4
        clear q1 q2 q3 hW3 hW4 HW2 HCL
        go_wp2
        go_roundw
        case rel => exact ⟨j + 1, by omega, by go_num, HW3.out⟩
        case measure => simp [intOf]; omega
        )
    · obtain rfl : j = ks.length := by omega
      have x3 : wr.cell? ⟨w.heap.size, 3, none⟩ = some (.slice A ks.length cp) := hW.box.cell 3
      rw [List.take_length] at hW
      by_cases h0 : ks.length = 0
      · have hz : ((0 : Int) < (ks.length : Int)) = False := by rw [h0]; simp
        have HF := HQ.out wr (by rw [HTX.out, if_pos h0, List.append_nil, ← List.append_assoc]; exact hW.bld) hW.bel hW.kept
        clear hW
        go_wp2
        exact bodyPost_ret (v := .tuple #[]) (by simp [results, Tryd.results12, go_sem]) rfl HF
      · have hz : (0 : Int) < (ks.length : Int) := by omega
        have hlj := txL_len ks true h64
        have hl1 : (l ++ hd.data.toList ++ txL ks true).length + 1 ≤ 140737488355328 := by
          simp only [List.length_append]
          omega
        go_wp2_with fail
        refine (wrs_any B b _ ⟨#[41]⟩ wr hW.bld hl1 (Nat.le_trans hB (Nat.le_of_lt hW.sz))).mono ?_
        rintro e w5 ⟨rfl, q1, q2, q3⟩
        have h5 := hW.put hbw q1 q2 q3
        have HF := HQ.out w5 (by rw [HTX.out, if_neg h0, ← List.append_assoc, ← List.append_assoc]; exact h5.bld) h5.bel h5.kept
        clear q1 q2 q3 h5 hW
        go_wp2
        exact bodyPost_ret (v := .tuple #[]) (by simp [results, Tryd.results12, go_sem]) rfl HF

set_option maxRecDepth 100000 in
set_option maxHeartbeats 4000000 in
theorem ttext_any (t : Tr) (cs : List Value) (w : World) (S : Nat → Prop) (ht : TrIs w S t cs) (hS : ∀ q, S q → q < w.heap.size) (hT : TabP w) (h64 : t64 t) (hlen : 68 * trNodes t ≤ 140737488355328) :
    Calls Tryd.prog 5 #[.agg cs.toArray] w fun e w' => e = .returned (.string ⟨(txI t).toArray⟩) ∧ Below w.heap.size w w' := by
  have hW := fun (W : World) (b : Nat) (hb : Below w.heap.size w W) (hB : Bld w.heap.size b [] W) => write_any t cs W S w.heap.size b [] (ht.keep (fun _ h => h) fun p hp => hb.cell (hS _ hp)) hS hb.size hT.lt hB (hT.below hT.lt hb) h64 (by simpa using hlen)
  have HW := Lib.hid hW
  clear hW
  cases t with
  | mk r f u ks =>
  obtain ⟨A, cp, rfl, hK⟩ := ht.kids
  clear ht hS hT h64 hlen hK
  go_enter Tryd.func5, Tryd.ntmps5
  have hbel : Below w.heap.size w ((w.alloc (.cells #[.int .i64 r, .int .i64 f, .int .i64 u, .slice A ks.length cp] 28)).alloc (.cells #[.pointer none, .slice none 0 0] 46)) := (by repeat (first | exact Below.refl _ _ | assumption | refine Below.drew ?_ | refine below_drewN ?_ _ | refine Below.alloc ?_ (by first | omega | (simp; omega) | simp) _ | refine Below.setCell ?_ (by first | omega | (simp; omega) | simp) _))
  have hbl : Bld w.heap.size (w.heap.size + 1) [] ((w.alloc (.cells #[.int .i64 r, .int .i64 f, .int .i64 u, .slice A ks.length cp] 28)).alloc (.cells #[.pointer none, .slice none 0 0] 46)) :=
    .inl ⟨by omega, .slice none 0 0, blk_at (by simp), World.ownsRowF_nil _ _ _ _, by simp [Value.ownBlock]⟩
  have hcl := HW.out _ _ hbel hbl
  have HCL := Lib.hid hcl
  clear hcl hbl HW
  go_wp2_with fail
  refine HCL.out.mono ?_
  rintro e w1 ⟨rfl, q1, q2, q3⟩
  have hst := bstr_any w.heap.size (w.heap.size + 1) _ w1 q1 (Nat.le_trans hbel.size q2.size)
  have HST := Lib.hid hst
  have hb1 := hbel.trans q2
  clear hst q1 q2 q3 HCL hbel
  go_wp2_with fail
  refine HST.out.mono ?_
  rintro e w2 ⟨rfl, q1, q2, q3⟩
  have hb2 := hb1.trans q2
  clear q1 q2 q3 HST hb1
  go_wp2
  go_ret
  exact ⟨rfl, hb2⟩
end Go.Proofs.YtkmcnekjimobhaaDoor
namespace Go.Proofs.YtkmcnekjimobhaaDoor
open Go.RowKit

structure S4 where
  a : Int
  b : Int
  c : Int
  d : Int
def S4.val (s : S4) : Value := .agg #[.int .u64 s.a, .int .u64 s.b, .int .u64 s.c, .int .u64 s.d]
def S4.map2 (f : Int → Int → Int) (s t : S4) : S4 := ⟨f s.a t.a, f s.b t.b, f s.c t.c, f s.d t.d⟩

def orU (x y : Int) : Int := bits .or .u64 x y
def andU (x y : Int) : Int := bits .and .u64 x y
/-- the closure F computes f, and leaves the world alone -/
def Computes (F : Nat) (f : Int → Int → Int) : Prop := ∀ (x y : Int) (w : World), Calls Tryd.prog F #[.int .u64 x, .int .u64 y] w fun e w' => e = .returned (.int .u64 (f x y)) ∧ w = w'

theorem join_fn : Computes 96 orU := by
  intro x y w
  go_enter Tryd.func96, Tryd.ntmps96
  go_wp2
  go_ret
  exact ⟨rfl, rfl⟩

/-- the words of a set behind k rounds -/
def stage (f : Int → Int → Int) (s t : S4) (k : Nat) : Array Value :=
  #[.int .u64 (if 0 < k then f s.a t.a else s.a), .int .u64 (if 1 < k then f s.b t.b else s.b), .int .u64 (if 2 < k then f s.c t.c else s.c), .int .u64 (if 3 < k then f s.d t.d else s.d)]
theorem stage_step (f : Int → Int → Int) (s t : S4) (k : Nat) (hk : k < 4) :
    ∃ x y, (stage f s t k)[k]? = some (.int .u64 x) ∧ (stage f t t 0)[k]? = some (.int .u64 y) ∧ (stage f s t k).setIfInBounds k (.int .u64 (f x y)) = stage f s t (k + 1) := by
  rcases (by omega : k = 0 ∨ k = 1 ∨ k = 2 ∨ k = 3) with rfl | rfl | rfl | rfl
  · exact ⟨s.a, t.a, rfl, rfl, rfl⟩
  · exact ⟨s.b, t.b, rfl, rfl, rfl⟩
  · exact ⟨s.c, t.c, rfl, rfl, rfl⟩
  · exact ⟨s.d, t.d, rfl, rfl, rfl⟩

theorem both_join (s t : S4) (w : World) :
    Calls Tryd.prog 95 #[s.val, t.val, .func (.func 96) #[] #[]] w fun e w' => e = .returned (S4.map2 orU s t).val ∧ Below w.heap.size w w' := by
  unfold S4.val
  go_enter Tryd.func95, Tryd.ntmps95
  go_wp2
  go_loopw [7, 8] (fun _ i wr => ∃ k : Nat, k ≤ 4 ∧ i = .int .i64 k ∧ Blk wr w.heap.size 62 (stage orU s t k) ∧ Blk wr (w.heap.size + 1) 62 (stage orU t t 0) ∧ Blk wr (w.heap.size + 1 + 1) 62 #[.int .u64 0, .int .u64 0, .int .u64 0, .int .u64 0] ∧ Below w.heap.size w wr) (fun _ i _ => 4 - (intOf i).toNat)
  case atStart => exact ⟨0, by omega, rfl, ((blk_at rfl).alloc _).alloc _, (blk_at (by simp)).alloc _, blk_at (by simp), (by repeat (first | exact Below.refl _ _ | assumption | refine Below.drew ?_ | refine below_drewN ?_ _ | refine Below.alloc ?_ (by first | omega | (simp; omega) | simp) _ | refine Below.setCell ?_ (by first | omega | (simp; omega) | simp) _))⟩
  case round =>
    obtain ⟨k, hk, rfl, hs, ht, hz, hbw⟩ := hrel
    by_cases hk4 : k < 4
    · obtain ⟨x, y, hx, hy, hn⟩ := stage_step orU s t k hk4
      have hcx := hs.cell k
      have hcy := ht.cell k
      have hfz := hs.frozen k
      rw [hx] at hcx
      rw [hy] at hcy
      have HN := Lib.hid hn
      clear hx hy hn
      have hk0 : (0 : Int) ≤ (k : Int) := by omega
      have hk1 : (k : Int) < 4 := by omega
      go_wp2_with fail
      go_region_with (go_at_call 96; refine (join_fn x y _).mono ?_; rintro e w' ⟨rfl, rfl⟩)
      all_goals
        go_wp2
        go_roundw
        case rel =>
          refine ⟨k + 1, by omega, by go_num, ?_, ht.far (by simp) _, hz.far (by simp; omega) _, (hbw.drew).setCell (Nat.le_refl _) _⟩
          have := (hs.drew).set_ k (.int .u64 (orU x y))
          rw [HN.out] at this
          exact this
        case measure => simp [intOf]; omega
    · obtain rfl : k = 4 := by omega
      have h0 : wr.cell? ⟨w.heap.size, 0, none⟩ = some (.int .u64 (orU s.a t.a)) := hs.cell 0
      have h1 : wr.cell? ⟨w.heap.size, 1, none⟩ = some (.int .u64 (orU s.b t.b)) := hs.cell 1
      have h2 : wr.cell? ⟨w.heap.size, 2, none⟩ = some (.int .u64 (orU s.c t.c)) := hs.cell 2
      have h3 : wr.cell? ⟨w.heap.size, 3, none⟩ = some (.int .u64 (orU s.d t.d)) := hs.cell 3
      have z0 : wr.cell? ⟨w.heap.size + 1 + 1, 0, none⟩ = some (.int .u64 0) := hz.cell 0
      have z1 : wr.cell? ⟨w.heap.size + 1 + 1, 1, none⟩ = some (.int .u64 0) := hz.cell 1
      have z2 : wr.cell? ⟨w.heap.size + 1 + 1, 2, none⟩ = some (.int .u64 0) := hz.cell 2
      have z3 : wr.cell? ⟨w.heap.size + 1 + 1, 3, none⟩ = some (.int .u64 0) := hz.cell 3
      have f0 := hz.frozen 0
      have f1 := hz.frozen 1
      have f2 := hz.frozen 2
      have f3 := hz.frozen 3
      have e0 : (wr.setCell ⟨w.heap.size + 1 + 1, 0, none⟩ (.int .u64 (orU s.a t.a))).cell? ⟨w.heap.size + 1 + 1, 0, none⟩ = some (.int .u64 (orU s.a t.a)) := (hz.set_ 0 _).cell 0
      have e1 : ((wr.setCell ⟨w.heap.size + 1 + 1, 0, none⟩ (.int .u64 (orU s.a t.a))).setCell ⟨w.heap.size + 1 + 1, 1, none⟩ (.int .u64 (orU s.b t.b))).cell? ⟨w.heap.size + 1 + 1, 1, none⟩ = some (.int .u64 (orU s.b t.b)) := ((hz.set_ 0 _).set_ 1 _).cell 1
      have e2 : (((wr.setCell ⟨w.heap.size + 1 + 1, 0, none⟩ (.int .u64 (orU s.a t.a))).setCell ⟨w.heap.size + 1 + 1, 1, none⟩ (.int .u64 (orU s.b t.b))).setCell ⟨w.heap.size + 1 + 1, 2, none⟩ (.int .u64 (orU s.c t.c))).cell? ⟨w.heap.size + 1 + 1, 2, none⟩ = some (.int .u64 (orU s.c t.c)) := (((hz.set_ 0 _).set_ 1 _).set_ 2 _).cell 2
      have e3 : ((((wr.setCell ⟨w.heap.size + 1 + 1, 0, none⟩ (.int .u64 (orU s.a t.a))).setCell ⟨w.heap.size + 1 + 1, 1, none⟩ (.int .u64 (orU s.b t.b))).setCell ⟨w.heap.size + 1 + 1, 2, none⟩ (.int .u64 (orU s.c t.c))).setCell ⟨w.heap.size + 1 + 1, 3, none⟩ (.int .u64 (orU s.d t.d))).cell? ⟨w.heap.size + 1 + 1, 3, none⟩ = some (.int .u64 (orU s.d t.d)) := ((((hz.set_ 0 _).set_ 1 _).set_ 2 _).set_ 3 _).cell 3
      go_wp2
      exact bodyPost_ret (v := (S4.map2 orU s t).val) (by simp [results, Tryd.results95, go_sem, e0, e1, e2, e3]; rfl) rfl ⟨rfl, (by repeat (first | exact Below.refl _ _ | assumption | refine Below.drew ?_ | refine below_drewN ?_ _ | refine Below.alloc ?_ (by first | omega | (simp; omega) | simp) _ | refine Below.setCell ?_ (by first | omega | (simp; omega) | simp) _))⟩


end Go.Proofs.YtkmcnekjimobhaaDoor
namespace Go.Proofs.YtkmcnekjimobhaaDoor
open Go.RowKit

theorem join_any (s t : S4) (w : World) : Calls Tryd.prog 84 #[s.val, t.val] w fun e w' => e = .returned (S4.map2 orU s t).val ∧ Below w.heap.size w w' := by
  have hc := both_join s t
  have HC := Lib.hid hc
  clear hc
  unfold S4.val at HC ⊢
  go_enter Tryd.func84, Tryd.ntmps84
  go_wp2_with fail
  refine (HC.out _).mono ?_
  rintro e w1 ⟨rfl, hb1⟩
  have hz : Blk w1 (w.heap.size + 1 + 1) 62 #[.int .u64 0, .int .u64 0, .int .u64 0, .int .u64 0] := (blk_at (by simp)).below hb1 (by simp)
  have hw1 : Below w.heap.size w w1 := Below.trans (by repeat (first | exact Below.refl _ _ | assumption | refine Below.drew ?_ | refine below_drewN ?_ _ | refine Below.alloc ?_ (by first | omega | (simp; omega) | simp) _ | refine Below.setCell ?_ (by first | omega | (simp; omega) | simp) _)) (hb1.mono (by first | omega | (simp; omega) | simp))
  have hz1 := hw1.size
  clear hb1
  have z0 : w1.cell? ⟨w.heap.size + 1 + 1, 0, none⟩ = some (.int .u64 0) := hz.cell 0
  have z1 : w1.cell? ⟨w.heap.size + 1 + 1, 1, none⟩ = some (.int .u64 0) := hz.cell 1
  have z2 : w1.cell? ⟨w.heap.size + 1 + 1, 2, none⟩ = some (.int .u64 0) := hz.cell 2
  have z3 : w1.cell? ⟨w.heap.size + 1 + 1, 3, none⟩ = some (.int .u64 0) := hz.cell 3
  have f0 := hz.frozen 0
  have f1 := hz.frozen 1
  have f2 := hz.frozen 2
  have f3 := hz.frozen 3
  have e0 : (w1.setCell ⟨w.heap.size + 1 + 1, 0, none⟩ (.int .u64 (orU s.a t.a))).cell? ⟨w.heap.size + 1 + 1, 0, none⟩ = some (.int .u64 (orU s.a t.a)) := (hz.set_ 0 _).cell 0
  have e1 : ((w1.setCell ⟨w.heap.size + 1 + 1, 0, none⟩ (.int .u64 (orU s.a t.a))).setCell ⟨w.heap.size + 1 + 1, 1, none⟩ (.int .u64 (orU s.b t.b))).cell? ⟨w.heap.size + 1 + 1, 1, none⟩ = some (.int .u64 (orU s.b t.b)) := ((hz.set_ 0 _).set_ 1 _).cell 1
  have e2 : (((w1.setCell ⟨w.heap.size + 1 + 1, 0, none⟩ (.int .u64 (orU s.a t.a))).setCell ⟨w.heap.size + 1 + 1, 1, none⟩ (.int .u64 (orU s.b t.b))).setCell ⟨w.heap.size + 1 + 1, 2, none⟩ (.int .u64 (orU s.c t.c))).cell? ⟨w.heap.size + 1 + 1, 2, none⟩ = some (.int .u64 (orU s.c t.c)) := (((hz.set_ 0 _).set_ 1 _).set_ 2 _).cell 2
  have e3 : ((((w1.setCell ⟨w.heap.size + 1 + 1, 0, none⟩ (.int .u64 (orU s.a t.a))).setCell ⟨w.heap.size + 1 + 1, 1, none⟩ (.int .u64 (orU s.b t.b))).setCell ⟨w.heap.size + 1 + 1, 2, none⟩ (.int .u64 (orU s.c t.c))).setCell ⟨w.heap.size + 1 + 1, 3, none⟩ (.int .u64 (orU s.d t.d))).cell? ⟨w.heap.size + 1 + 1, 3, none⟩ = some (.int .u64 (orU s.d t.d)) := ((((hz.set_ 0 _).set_ 1 _).set_ 2 _).set_ 3 _).cell 3
  unfold S4.map2 at *
  go_wp2
  exact bodyPost_ret (v := .agg #[.int .u64 (orU s.a t.a), .int .u64 (orU s.b t.b), .int .u64 (orU s.c t.c), .int .u64 (orU s.d t.d)]) (by simp [results, Tryd.results84, go_sem, e0, e1, e2, e3]) rfl ⟨rfl, (by repeat (first | exact Below.refl _ _ | assumption | refine Below.drew ?_ | refine below_drewN ?_ _ | refine Below.alloc ?_ (by first | omega | (simp; omega) | simp) _ | refine Below.setCell ?_ (by first | omega | (simp; omega) | simp) _))⟩
end Go.Proofs.YtkmcnekjimobhaaDoor
namespace Go.Proofs.YtkmcnekjimobhaaDoor
open Go.RowKit


/-- the words of set.Range behind so many rounds from lo on -/
def rangeL (lo : Nat) : Nat → List Nat
  | 0 => [0, 0, 0, 0]
  | k + 1 => (rangeL lo k).set ((lo + k) / 64) ((rangeL lo k).getD ((lo + k) / 64) 0 ||| 2 ^ ((lo + k) % 64))
def words (l : List Nat) : Array Value := (l.map fun x : Nat => Value.int .u64 x).toArray

theorem four_of {l : List Nat} (h : l.length = 4) : ∃ x0 x1 x2 x3, l = [x0, x1, x2, x3] :=
  match l, h with
  | [x0, x1, x2, x3], _ => ⟨x0, x1, x2, x3, rfl⟩
theorem rangeL_len (lo : Nat) : ∀ k, (rangeL lo k).length = 4
  | 0 => rfl
  | k + 1 => by rw [rangeL, List.length_set, rangeL_len lo k]
theorem words_get {l : List Nat} {i : Nat} (h : i < l.length) : (words l)[i]? = some (.int .u64 ((l.getD i 0 : Nat) : Int)) := by
  simp [words, h]
theorem words_set (l : List Nat) (i : Nat) (x : Nat) : (words l).setIfInBounds i (.int .u64 (x : Int)) = words (l.set i x) := by
  simp [words, List.map_set]

theorem and63 (b : Nat) (h : b < 256) : bits .and .i64 (b : Int) 63 = ((b % 64 : Nat) : Int) := by
  have h' : ∀ b : Fin 256, bits .and .i64 ((b : Nat) : Int) 63 = (((b : Nat) % 64 : Nat) : Int) := by decide +kernel
  exact h' ⟨b, h⟩

theorem or_bit {x r : Nat} (hx : x < 18446744073709551616) (hr : r < 64) : bits .or .u64 (x : Int) (IntKind.u64.wrap (2 ^ r)) = ((x ||| 2 ^ r : Nat) : Int) := by
  have h2 : (2 : Nat) ^ r < 18446744073709551616 := by
    have : (2 : Nat) ^ r < 2 ^ 64 := Nat.pow_lt_pow_right (by omega) hr
    simpa using this
  have h3 : IntKind.u64.wrap (2 ^ r) = ((2 ^ r : Nat) : Int) := by
    rw [show ((2 : Int) ^ r) = ((2 ^ r : Nat) : Int) by simp]
    generalize 2 ^ r = p at *
    rw [IntKind.wrap_u64]
    omega
  rw [h3, u64_or_nat x (2 ^ r) hx h2]
theorem rangeL_lt (lo : Nat) : ∀ k i, (rangeL lo k).getD i 0 < 18446744073709551616
  | 0, i => by
    match i with
    | 0 => show 0 < 18446744073709551616; decide
    | 1 => show 0 < 18446744073709551616; decide
    | 2 => show 0 < 18446744073709551616; decide
    | 3 => show 0 < 18446744073709551616; decide
    | i + 4 => simp [rangeL]
  | k + 1, i => by
    have ih := rangeL_lt lo k
    rw [rangeL, List.getD_eq_getElem?_getD, List.getElem?_set]
    split
    · split
      · have h1 : (2 : Nat) ^ ((lo + k) % 64) < 2 ^ 64 := Nat.pow_lt_pow_right (by omega) (Nat.mod_lt _ (by omega))
        have h2 := ih ((lo + k) / 64)
        have := Nat.or_lt_two_pow (n := 64) (by simpa using h2) h1
        simpa using this
      · simp
    · have := ih i
      rwa [List.getD_eq_getElem?_getD] at this

set_option maxHeartbeats 1600000 in
theorem range_any (low high : Int) (w : World) (h1 : I64 low) (h2 : I64 high) (lo n : Nat) (hlo : (low ≤ 0 ∧ lo = 0) ∨ (low = lo ∧ 0 < lo)) (hn : n = (min 255 high + 1 - lo).toNat) :
    Calls Tryd.prog 65 #[.int .i64 low, .int .i64 high] w fun e w' => e = .returned (.agg (words (rangeL lo n))) ∧ Below w.heap.size w w' := by
  obtain ⟨h1a, h1b⟩ := h1
  obtain ⟨h2a, h2b⟩ := h2
  have hn1 : n = 0 ∨ (lo : Int) + n ≤ 256 := by omega
  have HN := Lib.hid hn
  clear hn
  have h0 : Hid (low ≤ 0 → lo = 0) := fun h => by omega
  rcases (show low ≤ 0 ∨ (low = lo ∧ 0 < lo) by omega) with hlo | ⟨rfl, hlo⟩
  all_goals
    go_enter Tryd.func65, Tryd.ntmps65
    go_wp2
    go_loopw [5] (fun i wr => ∃ b k : Nat, b = lo + k ∧ k ≤ n ∧ i = .int .i64 b ∧ Blk wr w.heap.size 62 (words (rangeL lo k)) ∧ Below w.heap.size w wr) (fun i _ => 300 - (intOf i).toNat)
    case atStart => exact ⟨lo, 0, rfl, by omega, by first | rfl | (rw [h0.out hlo]; rfl) | (rw [h0.out hlo, Int.max_eq_left hlo]; rfl) | (rw [Int.max_eq_right (by omega)]), blk_at rfl, (by repeat (first | exact Below.refl _ _ | assumption | refine Below.drew ?_ | refine below_drewN ?_ _ | refine Below.alloc ?_ (by first | omega | (simp; omega) | simp) _ | refine Below.setCell ?_ (by first | omega | (simp; omega) | simp) _))⟩
    case round =>
      obtain ⟨b, k, hbk, hk, rfl, hb, hbw⟩ := hrel
      have HBK := Lib.hid hbk
      by_cases hkn : k < n
      · have hb256 : b < 256 := by omega
        have hle : (b : Int) ≤ min 255 high := by have := HN.out; omega
        have hl := rangeL_len lo k
        obtain ⟨q, r, hq, hr, hr64, hq4, hqn, hrn⟩ : ∃ q r : Nat, (b : Int) / 64 = q ∧ bits .and .i64 (b : Int) 63 = r ∧ r < 64 ∧ q < 4 ∧ (lo + k) / 64 = q ∧ (lo + k) % 64 = r :=
          ⟨b / 64, b % 64, by omega, by rw [and63 b hb256], by omega, by omega, by omega, by omega⟩
        have HQ := Lib.hid hqn
        have HR := Lib.hid hrn
        have hc := hb.cell q
        have hf := hb.frozen q
        rw [words_get (by omega)] at hc
        generalize hx : (rangeL lo k).getD q 0 = x at hc
        have HX := Lib.hid hx
        have HL := Lib.hid hl
        clear hx hl hbk hqn hrn
        by_cases hh : high < 255
        · go_wp2
          go_region
          all_goals
            go_wp2
            go_roundw
            case rel =>
              refine ⟨b + 1, k + 1, by have := HBK.out; omega, by omega, by go_num, ?_, (hbw.drew).setCell (Nat.le_refl _) _⟩
              have h := (hb.drew).set_ q (.int .u64 ((x ||| 2 ^ r : Nat) : Int))
              rw [words_set, ← HX.out, ← HQ.out, ← HR.out] at h
              rw [or_bit (by rw [← HX.out]; exact rangeL_lt lo k q) hr64, ← HX.out]
              rw [← HQ.out, ← HR.out]
              exact h
            case measure => simp [intOf]; omega
        · go_wp2
          go_region
          all_goals
            go_wp2
            go_roundw
            case rel =>
              refine ⟨b + 1, k + 1, by have := HBK.out; omega, by omega, by go_num, ?_, (hbw.drew).setCell (Nat.le_refl _) _⟩
              have h := (hb.drew).set_ q (.int .u64 ((x ||| 2 ^ r : Nat) : Int))
              rw [words_set, ← HX.out, ← HQ.out, ← HR.out] at h
              rw [or_bit (by rw [← HX.out]; exact rangeL_lt lo k q) hr64, ← HX.out]
              rw [← HQ.out, ← HR.out]
              exact h
            case measure => simp [intOf]; omega
      · obtain rfl : k = n := by omega
        have hl := rangeL_len lo k
        have hgt : min 255 high < b := by have := HN.out; have := HBK.out; omega
        obtain ⟨x0, x1, x2, x3, hL⟩ := four_of hl
        rw [hL] at hb
        have HLL := Lib.hid hL
        clear hL hl
        have c0 : wr.cell? ⟨w.heap.size, 0, none⟩ = some (.int .u64 x0) := hb.cell 0
        have c1 : wr.cell? ⟨w.heap.size, 1, none⟩ = some (.int .u64 x1) := hb.cell 1
        have c2 : wr.cell? ⟨w.heap.size, 2, none⟩ = some (.int .u64 x2) := hb.cell 2
        have c3 : wr.cell? ⟨w.heap.size, 3, none⟩ = some (.int .u64 x3) := hb.cell 3
        have f0 := hb.frozen 0
        have f1 := hb.frozen 1
        have f2 := hb.frozen 2
        have f3 := hb.frozen 3
        have e0 : (wr.setCell ⟨w.heap.size, 0, none⟩ (.int .u64 (x0 : Int))).cell? ⟨w.heap.size, 0, none⟩ = some (.int .u64 (x0 : Int)) := (hb.set_ 0 _).cell 0
        have e1 : ((wr.setCell ⟨w.heap.size, 0, none⟩ (.int .u64 (x0 : Int))).setCell ⟨w.heap.size, 1, none⟩ (.int .u64 (x1 : Int))).cell? ⟨w.heap.size, 1, none⟩ = some (.int .u64 (x1 : Int)) := ((hb.set_ 0 _).set_ 1 _).cell 1
        have e2 : (((wr.setCell ⟨w.heap.size, 0, none⟩ (.int .u64 (x0 : Int))).setCell ⟨w.heap.size, 1, none⟩ (.int .u64 (x1 : Int))).setCell ⟨w.heap.size, 2, none⟩ (.int .u64 (x2 : Int))).cell? ⟨w.heap.size, 2, none⟩ = some (.int .u64 (x2 : Int)) := (((hb.set_ 0 _).set_ 1 _).set_ 2 _).cell 2
        have e3 : ((((wr.setCell ⟨w.heap.size, 0, none⟩ (.int .u64 (x0 : Int))).setCell ⟨w.heap.size, 1, none⟩ (.int .u64 (x1 : Int))).setCell ⟨w.heap.size, 2, none⟩ (.int .u64 (x2 : Int))).setCell ⟨w.heap.size, 3, none⟩ (.int .u64 (x3 : Int))).cell? ⟨w.heap.size, 3, none⟩ = some (.int .u64 (x3 : Int)) := ((((hb.set_ 0 _).set_ 1 _).set_ 2 _).set_ 3 _).cell 3
        by_cases hh : high < 255
        all_goals
          go_wp2
          exact bodyPost_ret (v := .agg #[.int .u64 x0, .int .u64 x1, .int .u64 x2, .int .u64 x3]) (by simp [results, Tryd.results65, go_sem, e0, e1, e2, e3]) rfl ⟨by rw [HLL.out]; rfl, (by repeat (first | exact Below.refl _ _ | assumption | refine Below.drew ?_ | refine below_drewN ?_ _ | refine Below.alloc ?_ (by first | omega | (simp; omega) | simp) _ | refine Below.setCell ?_ (by first | omega | (simp; omega) | simp) _))⟩
end Go.Proofs.YtkmcnekjimobhaaDoor
namespace Go.Proofs.YtkmcnekjimobhaaDoor

/-- what a parser remembers: outcomes of rules at places, the steps, the farthest miss and what was wanted there; marks of nodes -/
structure PS where
  seen : List ((Nat × Nat) × Option Nat)
  log : List (Nat × Nat × Option Nat)
  far : Int
  want : S4
  marks : List Nat
def recall (l : List ((Nat × Nat) × Option Nat)) (k : Nat × Nat) : Option (Option Nat) := (l.find? fun x => decide (x.1 = k)).map (·.2)
def noS : S4 := ⟨0, 0, 0, 0⟩
/-- the set of one byte -/
def oneS (c : Nat) : S4 := ⟨((rangeL c 1).getD 0 0 : Nat), ((rangeL c 1).getD 1 0 : Nat), ((rangeL c 1).getD 2 0 : Nat), ((rangeL c 1).getD 3 0 : Nat)⟩
/-- a byte of these was missed at a place -/
def missS (σ : PS) (p : Nat) (w : S4) : PS :=
  if σ.far < (p : Int) then { σ with far := p, want := S4.map2 orU noS w }
  else if (p : Int) = σ.far then { σ with want := S4.map2 orU σ.want w } else σ
/-- how much of a text stands at a place -/
def alike (s : List UInt8) (p : Nat) (t : List UInt8) : Nat → Nat → Nat
  | 0, k => k
  | f + 1, k => if p + k < s.length ∧ bt s (p + k) = bt t k then alike s p t f (k + 1) else k
def matchN (s : List UInt8) (p : Nat) (t : List UInt8) : Nat := alike s p t t.length 0
/-- the number of a rule's first node -/
def firstN (g : List Rl) (i : Nat) : Nat := ((g.take i).map fun r => nodes r.2).sum
/-- a node was tried -/
def markS (hook : Bool) (σ : PS) (n : Nat) (ok : Bool) : PS :=
  if hook then { σ with marks := σ.marks.set n (σ.marks.getD n 0 ||| (if ok then 1 else 2)) } else σ

inductive PJob where
  | node (e : Ex) (n : Nat)
  | try_ (e : Ex) (n : Nat)
  | rule (i : Nat)
  | seq (es : List Ex) (n : Nat)
  | alt (es : List Ex) (n : Nat)
  | rep (e : Ex) (n : Nat)
  | one (k : Int) (e : Ex) (n : Nat)

/-- what comes of it, and what is remembered then -/
def pk (g : List Rl) (s : List UInt8) (hook : Bool) : Nat → PJob → Nat → PS → Option (Option Nat × PS)
  | 0, _, _, _ => none
  | m + 1, .try_ e n, p, σ => match pk g s hook m (.node e n) p σ with
    | none => none
    | some (o, σ1) => some (o, markS hook σ1 n o.isSome)
  | m + 1, .rule i, p, σ => match recall σ.seen (i, p) with
    | some o => some (o.map (p + ·), σ)
    | none => match g[i]? with
      | none => none
      | some r => match pk g s hook m (.try_ r.2 (firstN g i)) p σ with
        | none => none
        | some (o, σ1) => if (recall σ1.seen (i, p)).isSome then none else some (o, { σ1 with seen := σ1.seen ++ [((i, p), o.map (· - p))], log := σ1.log ++ [(i, p, o.map (· - p))] })
  | m + 1, .node (.mk k a b c d t ks) n, p, σ =>
    if k = 1 then some (some p, σ)
    else if k = 2 then (if p < s.length ∧ hasE a b c d (bt s p) = true then some (some (p + 1), σ) else some (none, missS σ p ⟨a, b, c, d⟩))
    else if k = 3 then (if litAt s p t.data.toList = true then some (some (p + t.size), σ) else some (none, missS σ (p + matchN s p t.data.toList) (oneS (bt t.data.toList (matchN s p t.data.toList)))))
    else if k = 4 then pk g s hook m (.rule (fnd g t.data.toList).toNat) p σ
    else if k = 5 then pk g s hook m (.seq ks (n + 1)) p σ
    else if k = 6 then pk g s hook m (.alt ks (n + 1)) p σ
    else (match ks with
      | [] => none
      | e :: _ => pk g s hook m (.one k e n) p σ)
  | m + 1, .one k e n, p, σ => match pk g s hook m (.try_ e (n + 1)) p σ with
    | none => none
    | some (none, σ1) => some (if k = 8 ∨ k = 10 then none else some p, σ1)
    | some (some to, σ1) => if k = 10 then some (some p, σ1) else if k = 11 then some (none, σ1) else if k = 9 then some (some to, σ1) else pk g s hook m (.rep e (n + 1)) to σ1
  | _ + 1, .seq [] _, p, σ => some (some p, σ)
  | m + 1, .seq (e :: es) n, p, σ => match pk g s hook m (.try_ e n) p σ with
    | none => none
    | some (none, σ1) => some (none, σ1)
    | some (some to, σ1) => pk g s hook m (.seq es (n + nodes e)) to σ1
  | _ + 1, .alt [] _, _, σ => some (none, σ)
  | m + 1, .alt (e :: es) n, p, σ => match pk g s hook m (.try_ e n) p σ with
    | none => none
    | some (some to, σ1) => some (some to, σ1)
    | some (none, σ1) => pk g s hook m (.alt es (n + nodes e)) p σ1
  | m + 1, .rep e n, p, σ => match pk g s hook m (.try_ e n) p σ with
    | none => none
    | some (none, σ1) => some (some p, σ1)
    | some (some to, σ1) => pk g s hook m (.rep e n) to σ1

theorem pk_node (g : List Rl) (s : List UInt8) (hook : Bool) (m : Nat) (k a b c d : Int) (t : ByteArray) (ks : List Ex) (n p : Nat) (σ : PS) : pk g s hook (m + 1) (.node (.mk k a b c d t ks) n) p σ =
    if k = 1 then some (some p, σ)
    else if k = 2 then (if p < s.length ∧ hasE a b c d (bt s p) = true then some (some (p + 1), σ) else some (none, missS σ p ⟨a, b, c, d⟩))
    else if k = 3 then (if litAt s p t.data.toList = true then some (some (p + t.size), σ) else some (none, missS σ (p + matchN s p t.data.toList) (oneS (bt t.data.toList (matchN s p t.data.toList)))))
    else if k = 4 then pk g s hook m (.rule (fnd g t.data.toList).toNat) p σ
    else if k = 5 then pk g s hook m (.seq ks (n + 1)) p σ
    else if k = 6 then pk g s hook m (.alt ks (n + 1)) p σ
    else (match ks with
      | [] => none
      | e :: _ => pk g s hook m (.one k e n) p σ) := rfl
theorem pk_mono (g : List Rl) (s : List UInt8) (hook : Bool) : ∀ m j p σ r, pk g s hook m j p σ = some r → pk g s hook (m + 1) j p σ = some r := by
  intro m
  induction m with
  | zero => intro j p σ r h; cases h
  | succ m ih =>
    intro j p σ r h
    cases j with
    | try_ e n =>
      simp only [pk] at h
      show (match pk g s hook (m + 1) (.node e n) p σ with | none => none | some (o, σ1) => some (o, markS hook σ1 n o.isSome)) = some r
      cases he : pk g s hook m (.node e n) p σ with
      | none => rw [he] at h; cases h
      | some x => rw [he] at h; rw [ih _ _ _ _ he]; exact h
    | rule i =>
      simp only [pk] at h
      show (match recall σ.seen (i, p) with
        | some o => some (o.map (p + ·), σ)
        | none => match g[i]? with
          | none => none
          | some r => match pk g s hook (m + 1) (.try_ r.2 (firstN g i)) p σ with
            | none => none
            | some (o, σ1) => if (recall σ1.seen (i, p)).isSome then none else some (o, { σ1 with seen := σ1.seen ++ [((i, p), o.map (· - p))], log := σ1.log ++ [(i, p, o.map (· - p))] })) = some r
      cases hs : recall σ.seen (i, p) with
      | some o => rw [hs] at h; exact h
      | none =>
        rw [hs] at h
        simp only at h ⊢
        cases hg : g[i]? with
        | none => rw [hg] at h; cases h
        | some rr =>
          rw [hg] at h
          simp only at h ⊢
          cases he : pk g s hook m (.try_ rr.2 (firstN g i)) p σ with
          | none => rw [he] at h; cases h
          | some x => rw [he] at h; rw [ih _ _ _ _ he]; exact h
    | seq es n =>
      cases es with
      | nil => exact h
      | cons e es =>
        simp only [pk] at h
        show (match pk g s hook (m + 1) (.try_ e n) p σ with
          | none => none
          | some (none, σ1) => some (none, σ1)
          | some (some to, σ1) => pk g s hook (m + 1) (.seq es (n + nodes e)) to σ1) = some r
        cases he : pk g s hook m (.try_ e n) p σ with
        | none => rw [he] at h; cases h
        | some x =>
          rw [he] at h
          rw [ih _ _ _ _ he]
          obtain ⟨o, σ1⟩ := x
          cases o with
          | none => exact h
          | some to => exact ih _ _ _ _ h
    | alt es n =>
      cases es with
      | nil => exact h
      | cons e es =>
        simp only [pk] at h
        show (match pk g s hook (m + 1) (.try_ e n) p σ with
          | none => none
          | some (some to, σ1) => some (some to, σ1)
          | some (none, σ1) => pk g s hook (m + 1) (.alt es (n + nodes e)) p σ1) = some r
        cases he : pk g s hook m (.try_ e n) p σ with
        | none => rw [he] at h; cases h
        | some x =>
          rw [he] at h
          rw [ih _ _ _ _ he]
          obtain ⟨o, σ1⟩ := x
          cases o with
          | some to => exact h
          | none => exact ih _ _ _ _ h
    | rep e n =>
      simp only [pk] at h
      show (match pk g s hook (m + 1) (.try_ e n) p σ with
        | none => none
        | some (none, σ1) => some (some p, σ1)
        | some (some to, σ1) => pk g s hook (m + 1) (.rep e n) to σ1) = some r
      cases he : pk g s hook m (.try_ e n) p σ with
      | none => rw [he] at h; cases h
      | some x =>
        rw [he] at h
        rw [ih _ _ _ _ he]
        obtain ⟨o, σ1⟩ := x
        cases o with
        | none => exact h
        | some to => exact ih _ _ _ _ h
    | node e n =>
      obtain ⟨k, a, b, c, d, t, ks⟩ := e
      rw [pk_node] at h
      rw [pk_node]
      by_cases k1 : k = 1
      · rw [if_pos k1] at h ⊢; exact h
      rw [if_neg k1] at h ⊢
      by_cases k2 : k = 2
      · rw [if_pos k2] at h ⊢; exact h
      rw [if_neg k2] at h ⊢
      by_cases k3 : k = 3
      · rw [if_pos k3] at h ⊢; exact h
      rw [if_neg k3] at h ⊢
      by_cases k4 : k = 4
      · rw [if_pos k4] at h ⊢; exact ih _ _ _ _ h
      rw [if_neg k4] at h ⊢
      by_cases k5 : k = 5
      · rw [if_pos k5] at h ⊢; exact ih _ _ _ _ h
      rw [if_neg k5] at h ⊢
      by_cases k6 : k = 6
      · rw [if_pos k6] at h ⊢; exact ih _ _ _ _ h
      rw [if_neg k6] at h ⊢
      cases ks with
      | nil => exact h
      | cons e es => exact ih _ _ _ _ h
    | one k e n =>
      simp only [pk] at h
      show (match pk g s hook (m + 1) (.try_ e (n + 1)) p σ with
        | none => none
        | some (none, σ1) => some (if k = 8 ∨ k = 10 then none else some p, σ1)
        | some (some to, σ1) => if k = 10 then some (some p, σ1) else if k = 11 then some (none, σ1) else if k = 9 then some (some to, σ1) else pk g s hook (m + 1) (.rep e (n + 1)) to σ1) = some r
      cases he : pk g s hook m (.try_ e (n + 1)) p σ with
      | none => rw [he] at h; cases h
      | some x =>
        rw [he] at h
        rw [ih _ _ _ _ he]
        obtain ⟨o, σ1⟩ := x
        cases o with
        | none => exact h
        | some to =>
          simp only at h ⊢
          by_cases k10 : k = 10
          · rw [if_pos k10] at h ⊢; exact h
          rw [if_neg k10] at h ⊢
          by_cases k11 : k = 11
          · rw [if_pos k11] at h ⊢; exact h
          rw [if_neg k11] at h ⊢
          by_cases k9 : k = 9
          · rw [if_pos k9] at h ⊢; exact h
          rw [if_neg k9] at h ⊢
          exact ih _ _ _ _ h
theorem pk_le {g : List Rl} {s : List UInt8} {hook : Bool} {m m' : Nat} {j : PJob} {p : Nat} {σ : PS} {r : Option Nat × PS} (h : pk g s hook m j p σ = some r) (hm : m ≤ m') : pk g s hook m' j p σ = some r := by
  induction hm with
  | refl => exact h
  | step _ ih => exact pk_mono _ _ _ _ _ _ _ _ ih
end Go.Proofs.YtkmcnekjimobhaaDoor
