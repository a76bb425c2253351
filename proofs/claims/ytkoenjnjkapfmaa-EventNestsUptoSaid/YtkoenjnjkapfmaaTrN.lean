/- The walk of EventNests. -/
import Derived.Test.YtkoenjnjkapfmaaTr8
import Derived.Test.YtkoenjnjkapfmaaTrC
import Derived.Deep.RegionHeld3
import Derived.Deep.Onto
namespace Go.Proofs.Ytkoenjnjkapfmaa
open Go.RowKit

theorem bld_short {l : List Ev} {t : Tr} (h : bld l [] = some t) (hl : 0 < l.length) : bld (l.take (l.length - 1)) [] = none := by
  cases hb : bld (l.take (l.length - 1)) [] with
  | none => rfl
  | some t' =>
    have h1 : l.take (l.length - 1) = evs t' := by have := bld_sound _ _ _ hb; simpa [flat] using this
    have h2 : l = evs t' ++ l.drop (l.length - 1) := by rw [← h1, List.take_append_drop]
    have h3 := bld_more t' (l.drop (l.length - 1)) (by
      intro e
      have := congrArg List.length e
      rw [List.length_drop] at this
      simp at this
      omega)
    rw [← h2, h] at h3
    cases h3
theorem bld_long {l : List Ev} {t : Tr} (h : bld l [] = some t) (v : Ev) : bld (l ++ [v]) [] = none := by
  have h1 : l = evs t := by have := bld_sound _ _ _ h; simpa [flat] using this
  rw [h1]
  exact bld_more t [v] (by simp)
theorem Reads.take_ev {w : World} {B n m : Nat} {A : Option Addr} {l : List Ev} (h : Reads w B 3 A n (evCells l)) (hm : m ≤ n) (hc : l.length = n) : Reads w B 3 A m (evCells (l.take m)) where
  len := by rw [evCells_len, List.length_take, hc, Nat.min_eq_left hm]
  lies h0 := by
    obtain ⟨ad, e, hb, hx⟩ := h.lies (by omega)
    refine ⟨ad, e, hb, fun j u hu => hx j u ?_⟩
    have : evCells l = evCells (l.take m) ++ evCells (l.drop m) := by rw [← evCells_app, List.take_append_drop]
    rw [this, List.getElem?_append_left (getElem?_lt hu)]
    exact hu

theorem tr_leaf (w : World) (S : Nat → Prop) (r f u : Int) : TrIs w S (.mk r f u []) [.int .i64 r, .int .i64 f, .int .i64 u, .slice none 0 0] :=
  .mk r f u [] none 0 (fun _ => []) (by simp) (by unfold maxLen; omega) (fun h => by simp at h) (fun i e h => by simp at h) (fun i e ad h => by simp at h)
/-- SameTree at a tree and itself, in whatever memory -/
theorem same_self (t : Tr) (cs cs' : List Value) (w : World) (h : TrIs w (· < w.heap.size) t cs) (h' : TrIs w (· < w.heap.size) t cs') :
    Calls Try.prog 26 #[.agg cs.toArray, .agg cs'.toArray] w fun e w' => e = .returned (.bool true) ∧ Below w.heap.size w w' := by
  have := same_any t t _ _ w (· < w.heap.size) h h' (fun b hb => hb)
  rw [show sameT t t = true from (sameT_eq t t).2 rfl] at this
  exact this

set_option maxHeartbeats 4000000 in
set_option maxRecDepth 100000 in
theorem walk_EventNests (A : Option Addr) (n c : Nat) (l : List Ev) (k r a : Int) (w : World) (hr : Reads w w.heap.size 3 A n (evCells l)) (hA : A = none → c = 0) (hnc : n ≤ c) (hn : n ≤ 1048576) :
    Calls Try.prog 9 #[.slice A n c, .agg #[.int .i64 k, .int .i64 r, .int .i64 a]] w fun e w' => e = .returned (.bool true) ∧ Below w.heap.size w w' := by
  have HL := Lib.hid hr.ev_len
  go_enter Try.func9, Try.ntmps9
  go_wp2_with fail
  have hr0 : ∀ W : World, Reads ((W.alloc (.cells #[.int .i64 k, .int .i64 r, .int .i64 a] 49)).alloc (.cells #[.int .i64 1, .int .i64 3, .int .i64 0, .int .i64 2, .int .i64 3, .int .i64 4] 49)) (W.heap.size + 2) 3 (some ⟨W.heap.size + 1, 0, none⟩) 2 (evCells [(1, 3, 0), (2, 3, 4)]) := fun W =>
    ⟨rfl, fun _ => ⟨⟨W.heap.size + 1, 0, none⟩, rfl, by simp, World.news_of_block (cs := #[.int .i64 1, .int .i64 3, .int .i64 0, .int .i64 2, .int .i64 3, .int .i64 4]) (t := 49) (fr := (0, 0)) (blk_at (by simp))⟩⟩
  refine (build_any _ 2 2 [(1, 3, 0), (2, 3, 4)] (w.heap.size + 2) _ (hr0 w) (by simp) (by omega)).mono ?_
  rintro e w1 ⟨⟨tc, hq⟩, hb1⟩
  obtain ⟨x, hx, rfl, htc⟩ : ∃ x, some (Tr.mk 3 0 4 []) = some x ∧ e = .returned (.tuple #[.agg tc.toArray, .int .i64 0]) ∧ TrIs w1 (· < w1.heap.size) x tc := by
    rcases hq with h | ⟨h, _⟩
    · exact h
    · cases h
  injection hx with hx
  subst hx
  obtain ⟨Ax, cpx, rfl, -⟩ := htc.kids
  have hb0 : Below w.heap.size w w1 := (((Below.refl _ _).alloc (Nat.le_refl _) _).alloc (by simp) _).trans (hb1.mono (by simp; omega))
  have hE : Blk w1 w.heap.size 49 #[.int .i64 k, .int .i64 r, .int .i64 a] := ((blk_at rfl).alloc _).below hb1 (by simp; omega)
  clear hb1 hq
  go_wp2_with fail
  refine (same_self (.mk 3 0 4 []) _ _ _ (htc.on ((Below.refl _ _).alloc (Nat.le_refl _) _) (by simp)) (tr_leaf _ _ 3 0 4)).mono ?_
  rintro e w2 ⟨rfl, hb2⟩
  have hb02 : Below w.heap.size w w2 := (hb0.alloc hb0.size _).trans (hb2.mono (by have := hb0.size; simp; omega))
  have hE2 : Blk w2 w.heap.size 49 #[.int .i64 k, .int .i64 r, .int .i64 a] := (hE.alloc _).below hb2 (by have := hE.lt; simp; omega)
  clear hb0 hb2 hE htc
  go_wp2_with fail
  have hr2 := hr.below hb02
  refine (build_any A n c l w.heap.size w2 hr2 hb02.size (by omega)).mono ?_
  rintro e w3 ⟨⟨tc, hq⟩, hb3⟩
  have hb03 : Below w.heap.size w w3 := hb02.trans (hb3.mono hb02.size)
  have hE3 : Blk w3 w.heap.size 49 #[.int .i64 k, .int .i64 r, .int .i64 a] := hE2.below hb3 hE2.lt
  clear hb02 hb3 hE2 hr2
  rcases hq with ⟨t, ht, rfl, htc⟩ | ⟨hno, rfl⟩
  · obtain ⟨At, cpt, rfl, -⟩ : ∃ A cp, tc = [.int .i64 (t.1), .int .i64 t.2, .int .i64 t.3, .slice A t.4.length cp] ∧ True := by
      cases t with
      | mk r1 f1 u1 ks1 => obtain ⟨A, cp, h, _⟩ := htc.kids; exact ⟨A, cp, h, trivial⟩
    have hpos : 0 < n := by
      rcases Nat.eq_zero_or_pos n with h0 | h0
      · have h1 : l = [] := List.eq_nil_of_length_eq_zero (by rw [HL.out]; exact h0)
        rw [h1, bld] at ht
        cases ht
      · exact h0
    have hsh := bld_short ht (by rw [HL.out]; exact hpos)
    rw [HL.out] at hsh
    have HSH := Lib.hid hsh
    clear hsh
    have HLO := Lib.hid (bld_long ht (k, r, a))
    have hev : l = evs t := by have := bld_sound _ _ _ ht; simpa [flat] using this
    have HEV := Lib.hid hev
    clear hev
    clear ht
    have hn2 : ¬ ((n : Int) ≤ 1) := by
      have h1 := congrArg List.length HEV.out
      rw [HL.out, evs_len] at h1
      cases t
      rw [trNodes] at h1
      omega
    go_wp2_with fail
    have hb4 := hb03.alloc hb03.size (.cells #[.int .i64 t.1, .int .i64 t.2, .int .i64 t.3, .slice At t.4.length cpt] 40)
    refine (build_any A (n - 1) c (l.take (n - 1)) w.heap.size _ ((hr.below hb4).take_ev (m := n - 1) (by omega) HL.out) hb4.size (by omega)).mono ?_
    rintro e w5 ⟨⟨tc, hq⟩, hb5⟩
    rw [HSH.out] at hq
    obtain rfl : e = .returned (.tuple #[.agg #[.int .i64 0, .int .i64 0, .int .i64 0, .slice none 0 0], .int .i64 3]) := by
      rcases hq with ⟨_, h, _⟩ | ⟨_, h⟩
      · cases h
      · exact h
    clear hq
    have hs3 := hb03.size
    have hs5 := hb5.size
    simp at hs5
    have hb8 : Below w.heap.size w (w5.alloc (.cells #[.int .i64 0, .int .i64 0, .int .i64 0, .slice none 0 0] 40)) := (hb4.trans (hb5.mono hb4.size)).alloc (by omega) _
    have hE8 : Blk (w5.alloc (.cells #[.int .i64 0, .int .i64 0, .int .i64 0, .slice none 0 0] 40)) w.heap.size 49 #[.int .i64 k, .int .i64 r, .int .i64 a] := ((hE3.alloc _).below hb5 (by simp; omega)).alloc _
    have hT8 : Blk (w5.alloc (.cells #[.int .i64 0, .int .i64 0, .int .i64 0, .slice none 0 0] 40)) w3.heap.size 40 #[.int .i64 t.1, .int .i64 t.2, .int .i64 t.3, .slice At t.4.length cpt] := ((blk_at rfl).below hb5 (by simp)).alloc _
    have hX8 : TrIs (w5.alloc (.cells #[.int .i64 0, .int .i64 0, .int .i64 0, .slice none 0 0] 40)) (· < w3.heap.size) t [.int .i64 t.1, .int .i64 t.2, .int .i64 t.3, .slice At t.4.length cpt] := ((htc.on ((Below.refl _ _).alloc (Nat.le_refl _) _) (Nat.le_refl _)).on (hb5.mono (by simp)) (Nat.le_refl _)).on ((Below.refl w5.heap.size _).alloc (Nat.le_refl _) _ |>.mono (by omega)) (Nat.le_refl _)
    go_wp2_with fail
    have hW8 : w5.heap.size < (w5.alloc (.cells #[.int .i64 0, .int .i64 0, .int .i64 0, .slice none 0 0] 40)).heap.size := by simp
    generalize w5.alloc (.cells #[.int .i64 0, .int .i64 0, .int .i64 0, .slice none 0 0] 40) = W8 at hb8 hE8 hT8 hX8 hW8 ⊢
    have hsz8 := hb8.size
    have hl8 := hE8.lt
    have HX8 := Lib.hid hX8
    have HB8 := Lib.hid hb8
    have HR8 : Hid (Reads W8 w.heap.size 3 A n (evCells l)) := hr.below hb8
    have HCL : Hid (∀ w', Below W8.heap.size W8 w' → Calls Try.prog 32 #[.slice A n c] w' fun e w'' => ∃ V c, e = .returned (.slice V n c) ∧ w''.ownsRow w'.heap.size 49 3 (.slice V n c) n (evCells l) ∧ Below w'.heap.size w' w'') := fun w' hb =>
      cloneE_any A n c l w.heap.size w' (HR8.out.below (hb.mono hsz8)) (Nat.le_trans hsz8 hb.size) hA (by omega)
    have HBL : Hid (∀ w' g c', w'.ownsRow W8.heap.size 49 3 (.slice (some ⟨g, 0, none⟩) (n + 1) c') (n + 1) (evCells l ++ [.int .i64 k, .int .i64 r, .int .i64 a]) → Calls Try.prog 24 #[.slice (some ⟨g, 0, none⟩) (n + 1) c'] w' fun e w'' => e = .returned (.tuple #[.agg #[.int .i64 0, .int .i64 0, .int .i64 0, .slice none 0 0], .int .i64 3]) ∧ Below w'.heap.size w' w'') := fun w' g c' ho => by
      have h1 : evCells l ++ [.int .i64 k, .int .i64 r, .int .i64 a] = evCells (l ++ [(k, r, a)]) := by rw [evCells_app]; rfl
      rw [h1] at ho
      refine (build_any _ (n + 1) c' (l ++ [(k, r, a)]) _ w' (Reads.of_own ho) (Nat.le_refl _) (by omega)).mono ?_
      rintro e w'' ⟨⟨tc, hq⟩, hk⟩
      rw [HLO.out] at hq
      rcases hq with ⟨_, h, _⟩ | ⟨_, h⟩
      · cases h
      · exact ⟨h, hk⟩
    have g0 : W8.cell? ⟨w.heap.size, 0, none⟩ = some (.int .i64 k) := hE8.cell 0
    have g1 : W8.cell? ⟨w.heap.size, 1, none⟩ = some (.int .i64 r) := hE8.cell 1
    have g2 : W8.cell? ⟨w.heap.size, 2, none⟩ = some (.int .i64 a) := hE8.cell 2
    have HOF : Hid (∀ w', Below W8.heap.size W8 w' → Calls Try.prog 23 #[.agg #[.int .i64 t.1, .int .i64 t.2, .int .i64 t.3, .slice At t.4.length cpt]] w' fun e w'' => (∃ V c, e = .returned (.slice V n c) ∧ w''.ownsRow w'.heap.size 49 3 (.slice V n c) n (evCells l)) ∧ Below w'.heap.size w' w'') := fun w' hb => by
      have h1 := HEV.out
      have h2 := congrArg List.length h1
      rw [HL.out, evs_len] at h2
      have := of_any t _ w' (· < w3.heap.size) (HX8.out.keep (fun _ h => h) fun p hp => hb.cell (by have hp' : p.block < w3.heap.size := hp; omega)) (fun b hb' => by have hp' : b < w3.heap.size := hb'; have := hb.size; omega) (by omega)
      rw [← h1, HL.out] at this
      exact this
    have HEQ : Hid (∀ w' V' c' b', Below W8.heap.size W8 w' → w'.ownsRow b' 49 3 (.slice V' n c') n (evCells l) → Calls Try.prog 27 #[.slice V' n c', .slice A n c] w' fun e w'' => e = .returned (.bool true) ∧ Below w'.heap.size w' w'') := fun w' V' c' b' hb ho => by
      refine (equalE_any V' A n c' n c l l w'.heap.size w.heap.size w' (Reads.of_own ho) (HR8.out.below (hb.mono hsz8)) (by unfold Small; omega)).mono ?_
      rintro e w'' ⟨rfl, d, rfl⟩
      exact ⟨by simp, below_drewN (Below.refl _ _) d⟩
    have g3 : W8.cell? ⟨w3.heap.size, 0, none⟩ = some (.int .i64 t.1) := hT8.cell 0
    have g4 : W8.cell? ⟨w3.heap.size, 1, none⟩ = some (.int .i64 t.2) := hT8.cell 1
    have g5 : W8.cell? ⟨w3.heap.size, 2, none⟩ = some (.int .i64 t.3) := hT8.cell 2
    have g6 : W8.cell? ⟨w3.heap.size, 3, none⟩ = some (.slice At t.4.length cpt) := hT8.cell 3
    have hl3 := hT8.lt
    have HK : Hid (∀ b, Below W8.heap.size W8 b → (fun w' => Below W8.heap.size W8 w' ∧ w'.cell? ⟨w.heap.size, 0, none⟩ = some (.int .i64 k) ∧ w'.cell? ⟨w.heap.size, 1, none⟩ = some (.int .i64 r) ∧ w'.cell? ⟨w.heap.size, 2, none⟩ = some (.int .i64 a) ∧ w'.cell? ⟨w3.heap.size, 0, none⟩ = some (.int .i64 t.1) ∧ w'.cell? ⟨w3.heap.size, 1, none⟩ = some (.int .i64 t.2) ∧ w'.cell? ⟨w3.heap.size, 2, none⟩ = some (.int .i64 t.3) ∧ w'.cell? ⟨w3.heap.size, 3, none⟩ = some (.slice At t.4.length cpt)) b) := fun b hb => by
      refine ⟨hb, ?_, ?_, ?_, ?_, ?_, ?_, ?_⟩ <;> (rw [hb.cell (by simp; omega)]; assumption)
    obtain ⟨i0, hi0, hz0, hz1, hz2⟩ := info_parts ev_info
    clear hr hA hX8 hb8 hb4 hb5 hb03 hE3 htc
    go_region_held3 (fun w' => Below W8.heap.size W8 w' ∧ w'.cell? ⟨w.heap.size, 0, none⟩ = some (.int .i64 k) ∧ w'.cell? ⟨w.heap.size, 1, none⟩ = some (.int .i64 r) ∧ w'.cell? ⟨w.heap.size, 2, none⟩ = some (.int .i64 a) ∧ w'.cell? ⟨w3.heap.size, 0, none⟩ = some (.int .i64 t.1) ∧ w'.cell? ⟨w3.heap.size, 1, none⟩ = some (.int .i64 t.2) ∧ w'.cell? ⟨w3.heap.size, 2, none⟩ = some (.int .i64 t.3) ∧ w'.cell? ⟨w3.heap.size, 3, none⟩ = some (.slice At t.4.length cpt))
      ((refine HK.out _ ?_
        first
          | exact (Below.refl _ _).drew
          | exact hw10
          | exact (Below.alloc (Below.refl _ _) (Nat.le_refl _) _).drew
          | exact (Below.alloc (Below.alloc (Below.refl _ _) (Nat.le_refl _) _) (by simp) _).drew
          | (go_split_ands; assumption)
          | (go_split_ands; refine Below.alloc ?_ ?_ _; assumption; apply Below.size; assumption)
          | (go_split_ands; refine Below.trans ?_ (hk.mono ?_); assumption; apply Below.size; assumption)
          | (go_split_ands; refine Below.setCell (Below.setCell (Below.setCell (Below.setCell ?_ ?_ _) ?_ _) ?_ _) ?_ _; assumption; all_goals first | omega | (simp; done) | (simp; omega))))
      (first
        | (go_at_call 32; refine (HCL.out _ (by go_split_ands; assumption)).mono ?_; rintro e w9 ⟨V, c', rfl, hown', hk⟩
           have hbs : W8.heap.size ≤ w9.heap.size := Nat.le_trans (by first | (simp; done) | (simp; omega)) hk.size
           first
             | (have hkhz9 : Below ((W8.alloc (.cells #[.int .i64 0, .int .i64 0, .int .i64 0, .slice none 0 0] 40)).drew).heap.size (W8.alloc (.cells #[.int .i64 0, .int .i64 0, .int .i64 0, .slice none 0 0] 40)).drew w9 := hk; have hz9 : Blk w9 W8.heap.size 40 #[.int .i64 0, .int .i64 0, .int .i64 0, .slice none 0 0] := Blk.below (Blk.drew (blk_at rfl)) hkhz9 (by first | (simp; done) | (simp; omega)))
             | (have hkhz9 : Below (((W8.alloc (.cells #[.int .i64 0, .int .i64 0, .int .i64 0, .slice none 0 0] 40)).alloc (.cells #[.int .i64 k, .int .i64 r, .int .i64 a] 49)).drew).heap.size ((W8.alloc (.cells #[.int .i64 0, .int .i64 0, .int .i64 0, .slice none 0 0] 40)).alloc (.cells #[.int .i64 k, .int .i64 r, .int .i64 a] 49)).drew w9 := hk; have hz9 : Blk w9 W8.heap.size 40 #[.int .i64 0, .int .i64 0, .int .i64 0, .slice none 0 0] := Blk.below (Blk.drew (Blk.alloc (blk_at rfl) _)) hkhz9 (by first | (simp; done) | (simp; omega)))
             | (have hkhz9 : Below (((W8.alloc (.cells #[.int .i64 k, .int .i64 r, .int .i64 a] 49)).alloc (.cells #[.int .i64 0, .int .i64 0, .int .i64 0, .slice none 0 0] 40)).drew).heap.size ((W8.alloc (.cells #[.int .i64 k, .int .i64 r, .int .i64 a] 49)).alloc (.cells #[.int .i64 0, .int .i64 0, .int .i64 0, .slice none 0 0] 40)).drew w9 := hk; have hz9 : Blk w9 (W8.heap.size + 1) 40 #[.int .i64 0, .int .i64 0, .int .i64 0, .slice none 0 0] := Blk.below (Blk.drew (blk_at (by simp))) hkhz9 (by first | (simp; done) | (simp; omega)))
             | skip
           first
             | (have hkhn9 : Below ((W8.alloc (.cells #[.int .i64 k, .int .i64 r, .int .i64 a] 49)).drew).heap.size (W8.alloc (.cells #[.int .i64 k, .int .i64 r, .int .i64 a] 49)).drew w9 := hk; have hn9 : Blk w9 W8.heap.size 49 #[.int .i64 k, .int .i64 r, .int .i64 a] := Blk.below (Blk.drew (blk_at rfl)) hkhn9 (by first | (simp; done) | (simp; omega)))
             | (have hkhn9 : Below (((W8.alloc (.cells #[.int .i64 k, .int .i64 r, .int .i64 a] 49)).alloc (.cells #[.int .i64 0, .int .i64 0, .int .i64 0, .slice none 0 0] 40)).drew).heap.size ((W8.alloc (.cells #[.int .i64 k, .int .i64 r, .int .i64 a] 49)).alloc (.cells #[.int .i64 0, .int .i64 0, .int .i64 0, .slice none 0 0] 40)).drew w9 := hk; have hn9 : Blk w9 W8.heap.size 49 #[.int .i64 k, .int .i64 r, .int .i64 a] := Blk.below (Blk.drew (Blk.alloc (blk_at rfl) _)) hkhn9 (by first | (simp; done) | (simp; omega)))
             | (have hkhn9 : Below (((W8.alloc (.cells #[.int .i64 0, .int .i64 0, .int .i64 0, .slice none 0 0] 40)).alloc (.cells #[.int .i64 k, .int .i64 r, .int .i64 a] 49)).drew).heap.size ((W8.alloc (.cells #[.int .i64 0, .int .i64 0, .int .i64 0, .slice none 0 0] 40)).alloc (.cells #[.int .i64 k, .int .i64 r, .int .i64 a] 49)).drew w9 := hk; have hn9 : Blk w9 (W8.heap.size + 1) 49 #[.int .i64 k, .int .i64 r, .int .i64 a] := Blk.below (Blk.drew (blk_at (by simp))) hkhn9 (by first | (simp; done) | (simp; omega)))
             | skip)
        | (go_at_call 24
           first
             | (refine (HBL.out _ _ _ hown1).mono ?_; rintro e w11 ⟨rfl, hk⟩)
             | (refine (HBL.out _ _ _ (hown1.alloc _)).mono ?_; rintro e w11 ⟨rfl, hk⟩)
           first
             | (have hz11 := Blk.below hz10 hk hz10.lt; have z0 := hz11.cell 0; have z1 := hz11.cell 1; have z2 := hz11.cell 2; have z3 := hz11.cell 3; have f0 := hz11.frozen 0; have f1 := hz11.frozen 1; have f2 := hz11.frozen 2; have f3 := hz11.frozen 3)
             | (have hk' : Below (w10.alloc (.cells #[.int .i64 0, .int .i64 0, .int .i64 0, .slice none 0 0] 40)).heap.size (w10.alloc (.cells #[.int .i64 0, .int .i64 0, .int .i64 0, .slice none 0 0] 40)) w11 := hk; have hz11 : Blk w11 w10.heap.size 40 #[.int .i64 0, .int .i64 0, .int .i64 0, .slice none 0 0] := Blk.below (blk_at rfl) hk' (by simp); have z0 := hz11.cell 0; have z1 := hz11.cell 1; have z2 := hz11.cell 2; have z3 := hz11.cell 3; have f0 := hz11.frozen 0; have f1 := hz11.frozen 1; have f2 := hz11.frozen 2; have f3 := hz11.frozen 3)
             | skip)
        | (refine step_append_lies _ (by rfl) _ _ _ (by rfl) W8.heap.size 49 i0 _ 3 24 Try.underlying41 hi0 hz0 hz1 hz2 rfl (by omega) (.slice V n c') n (evCells l) (by rfl) (World.ownsRow.mono (by first | exact hown' | exact hown'.alloc _ | exact (hown'.alloc _).alloc _) (by first | omega | (simp; done) | (simp; omega))) _ 1 1 [.int .i64 k, .int .i64 r, .int .i64 a] (by rfl) (by rfl)
             (World.news_of_block (cs := #[.int .i64 k, .int .i64 r, .int .i64 a]) (t := 49) (fr := (0, 0)) (by first | exact hn9 | exact Blk.alloc hn9 _ | exact blk_at rfl | exact Blk.alloc (blk_at rfl) _ | exact blk_at (by simp))) (by simp [Value.oneCell'])
             (by omega) (by unfold maxLen; omega) (by omega) (by first | omega | (simp; done) | (simp; omega)) _ rfl ?_; intro g cap w10 hown1 hgrow hat hlt
           have hw10 : Below W8.heap.size W8 w10 := below_app (by go_split_ands; assumption) (World.ownsRow.mono (by first | exact hown' | exact hown'.alloc _ | exact (hown'.alloc _).alloc _) (by first | omega | (simp; done) | (simp; omega))) hgrow (by first | omega | (simp; done) | (simp; omega)) (Nat.le_refl _)
           have hs10 := hw10.size
           first
             | (have hz10 := Blk.grown hz9 hgrow (own_ne hown' (by first | (simp; done) | (simp; omega))))
             | (have hz10 := Blk.grown (Blk.alloc hz9 _) hgrow (own_ne hown' (by first | (simp; done) | (simp; omega))))
             | (have hg' : (w9.alloc (.cells #[.int .i64 0, .int .i64 0, .int .i64 0, .slice none 0 0] 40)).grownBy w10 (Value.slice V n c').ownBlock := hgrow; have hz10 : Blk w10 w9.heap.size 40 #[.int .i64 0, .int .i64 0, .int .i64 0, .slice none 0 0] := Blk.grown (blk_at rfl) hg' (fun e => absurd (hown'.lt _ e.symm).2 (by omega)))
             | (have hg' : ((w9.alloc (.cells #[.int .i64 0, .int .i64 0, .int .i64 0, .slice none 0 0] 40)).alloc (.cells #[.int .i64 k, .int .i64 r, .int .i64 a] 49)).grownBy w10 (Value.slice V n c').ownBlock := hgrow; have hz10 : Blk w10 w9.heap.size 40 #[.int .i64 0, .int .i64 0, .int .i64 0, .slice none 0 0] := Blk.grown (Blk.alloc (blk_at rfl) _) hg' (fun e => absurd (hown'.lt _ e.symm).2 (by omega)))
             | (have hg' : ((w9.alloc (.cells #[.int .i64 k, .int .i64 r, .int .i64 a] 49)).alloc (.cells #[.int .i64 0, .int .i64 0, .int .i64 0, .slice none 0 0] 40)).grownBy w10 (Value.slice V n c').ownBlock := hgrow; have hz10 : Blk w10 (w9.heap.size + 1) 40 #[.int .i64 0, .int .i64 0, .int .i64 0, .slice none 0 0] := Blk.grown (blk_at (by simp)) hg' (fun e => absurd (hown'.lt _ e.symm).2 (by omega)))
             | skip))
    all_goals
      go_split_ands
      go_wp2_with fail
      refine (HOF.out _ (by assumption)).mono ?_
      rintro e w12 ⟨⟨V2, c2, rfl, ho2⟩, hk2⟩
      have hb12 : Below W8.heap.size W8 w12 := Below.trans (by assumption) (hk2.mono (Below.size (by assumption)))
      go_wp2_with fail
      refine (HEQ.out _ _ _ _ hb12 ho2).mono ?_
      rintro e w13 ⟨rfl, hk3⟩
      go_wp2
      go_ret
      exact ⟨by simp, HB8.out.trans ((hb12.trans (hk3.mono hb12.size)).mono hsz8)⟩
  · go_wp2_with fail
    refine (same_self (.mk 0 0 0 []) _ _ _ (tr_leaf _ _ 0 0 0) (tr_leaf _ _ 0 0 0)).mono ?_
    rintro e w4 ⟨rfl, hb4⟩
    go_wp2
    go_ret
    exact ⟨by simp, (hb03.alloc hb03.size _).trans (hb4.mono (by have := hb03.size; simp; omega))⟩
end Go.Proofs.Ytkoenjnjkapfmaa
