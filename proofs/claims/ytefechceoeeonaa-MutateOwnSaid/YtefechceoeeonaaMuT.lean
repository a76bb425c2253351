/- mutate.turns: kinds that may be turned into nothing, or into one of the same kids. -/
import Derived.Test.YtefechceoeeonaaMuO
import Derived.Deep.DeepCutAuto
namespace Go.Proofs.Ytefechceoeeonaa
open Go.RowKit Go.Maps

set_option maxRecDepth 100000 in
set_option maxHeartbeats 4000000 in
theorem turns_other (B0 : Nat) (k a b c d : Int) (t : ByteArray) (A : Option Addr) (n cp : Nat) (w : World) (h2 : k ≠ 2) (h5 : k ≠ 5) (h6 : k ≠ 6) (h7 : k ≠ 7) (h8 : k ≠ 8) (h9 : k ≠ 9) (h10 : k ≠ 10) (h11 : k ≠ 11) :
    Calls Try.prog 83 #[.agg #[.int .i64 k, .int .u64 a, .int .u64 b, .int .u64 c, .int .u64 d, .string t, .slice A n cp]] w (OutsQ B0 [] w) := by
  have hmf : ∀ (fn : Fn) (first cap : Array Value) (w : World), (Instr.makeFunc fn first cap).run Try.prog w = .ok (.func fn first cap) w := fun _ _ _ _ => rfl
  have b2 : (k == 2) = false := by rw [beq_eq_false_iff_ne]; exact h2
  have b5 : (k == 5) = false := by rw [beq_eq_false_iff_ne]; exact h5
  have b6 : (k == 6) = false := by rw [beq_eq_false_iff_ne]; exact h6
  have b7 : (k == 7) = false := by rw [beq_eq_false_iff_ne]; exact h7
  have b8 : (k == 8) = false := by rw [beq_eq_false_iff_ne]; exact h8
  have b9 : (k == 9) = false := by rw [beq_eq_false_iff_ne]; exact h9
  have b10 : (k == 10) = false := by rw [beq_eq_false_iff_ne]; exact h10
  have b11 : (k == 11) = false := by rw [beq_eq_false_iff_ne]; exact h11
  have HQ : Hid (∀ w', Below w.heap.size w w' → OutsQ B0 [] w (.returned (.slice none 0 0)) w') := fun w' hb => ⟨hb, none, 0, _, rfl, Outs.nil _ _ _⟩
  generalize OutsQ B0 [] w = Q at HQ ⊢
  clear h2 h5 h6 h7 h8 h9 h10 h11
  go_enter Try.func83, Try.ntmps83
  go_wp2
  exact HQ.out _ (by repeat (first | exact Below.refl _ _ | assumption | refine Below.drew ?_ | refine below_drewN ?_ _ | refine Below.alloc ?_ (by first | omega | (simp; omega) | simp) _ | refine Below.setCell ?_ (by first | omega | (simp; omega) | simp) _))

theorem Outs.own_base {N : Nat → Prop} {base base' : Nat} {W : World} {es : List Ex} {V : Option Addr} {c : Nat} {rows : Nat → List Value} (h : Outs N base W es V c rows) (hb : base' ≤ base) : Outs N base' W es V c rows :=
  ⟨⟨h.own.1, by
    rcases h.own.2 with h1 | ⟨g, cap, cur, h1, h2, h3⟩
    · exact .inl h1
    · exact .inr ⟨g, cap, cur, h1, Nat.le_trans hb h2, h3⟩⟩, h.kid⟩
theorem node_as {w : World} {B : Nat} {k a b c d : Int} {t : ByteArray} {ks : List Ex} {A : Option Addr} {cp : Nat} (h : ExIs w B (.mk k a b c d t ks) (exCells k a b c d t A ks.length cp)) (k' : Int) : ExIs w B (ofN k' ks) (exCells k' 0 0 0 0 ⟨#[]⟩ A ks.length cp) := by
  unfold exCells at h
  generalize hcs : ([.int .i64 k, .int .u64 a, .int .u64 b, .int .u64 c, .int .u64 d, .string t, .slice A ks.length cp] : List Value) = cs at h
  cases h with
  | mk _ _ _ _ _ _ _ A2 cp2 row ht hl hm hn hb hr hc =>
    simp at hcs
    obtain ⟨rfl, rfl⟩ := hcs
    exact .mk k' 0 0 0 0 ⟨#[]⟩ ks A cp row (by decide) hl hm hn hb hr hc
theorem exF_of {w W : World} {B : Nat} {e : Ex} {cs : List Value} (h : ExIs w B e cs) (hb : Below B w W) : ExF (fun b => b < B) B W e cs := fun _ hX => h.keep (Nat.le_refl _) fun p hp => (hX p hp).trans (hb.cell hp)
theorem TwoW.below {ob B : Nat} {r : Option Nat} {w w' : World} (h : TwoW ob r w w') (hB : B ≤ w.heap.size) (ho : B ≤ ob) (hr : ∀ q, r = some q → B ≤ q) : Below B w w' := ⟨h.os, h.tape, h.output, h.size, fun b hb => h.block b (by omega) (by omega) fun e => by have := hr b e.symm; omega⟩

set_option maxRecDepth 100000 in
set_option maxHeartbeats 4000000 in
theorem turns_plus (B0 : Nat) (a b c d : Int) (t : ByteArray) (ks : List Ex) (A : Option Addr) (cp : Nat) (w : World) (hB : B0 ≤ w.heap.size) (hE : ExIs w B0 (.mk 8 a b c d t ks) (exCells 8 a b c d t A ks.length cp)) :
    Calls Try.prog 83 #[.agg #[.int .i64 8, .int .u64 a, .int .u64 b, .int .u64 c, .int .u64 d, .string t, .slice A ks.length cp]] w (OutsQ B0 [ofN 7 ks] w) := by
  have hmf : ∀ (fn : Fn) (first cap : Array Value) (w : World), (Instr.makeFunc fn first cap).run Try.prog w = .ok (.func fn first cap) w := fun _ _ _ _ => rfl
  have HX := Lib.hid (node_as hE 7)
  clear hE
  go_enter Try.func83, Try.ntmps83
  go_wp2_with fail
  have hob : Blk ((w.alloc (.cells #[.int .i64 8, .int .u64 a, .int .u64 b, .int .u64 c, .int .u64 d, .string t, .slice A ks.length cp] 38)).alloc (.cells #[.slice none 0 0] 36)) (w.heap.size + 1) 36 #[.slice none 0 0] := blk_at (by simp)
  have hb0 : Below w.heap.size w ((w.alloc (.cells #[.int .i64 8, .int .u64 a, .int .u64 b, .int .u64 c, .int .u64 d, .string t, .slice A ks.length cp] 38)).alloc (.cells #[.slice none 0 0] 36)) := (by repeat (first | exact Below.refl _ _ | assumption | refine Below.drew ?_ | refine below_drewN ?_ _ | refine Below.alloc ?_ (by first | omega | (simp; omega) | simp) _ | refine Below.setCell ?_ (by first | omega | (simp; omega) | simp) _))
  have hs0 : ((w.alloc (.cells #[.int .i64 8, .int .u64 a, .int .u64 b, .int .u64 c, .int .u64 d, .string t, .slice A ks.length cp] 38)).alloc (.cells #[.slice none 0 0] 36)).heap.size = w.heap.size + 2 := by simp
  generalize ((w.alloc (.cells #[.int .i64 8, .int .u64 a, .int .u64 b, .int .u64 c, .int .u64 d, .string t, .slice A ks.length cp] 38)).alloc (.cells #[.slice none 0 0] 36)) = w0 at hob hb0 hs0 ⊢
  have hO0 := Outs.nil (fun b => B0 ≤ b ∧ b < w.heap.size + 2) (w.heap.size + 2) w0
  have hEF := (exF_of HX.out (hb0.mono hB)).mono (S' := fun b => b < w0.heap.size ∧ ¬ (B0 ≤ b ∧ b < w.heap.size + 2) ∧ some b ≠ (Value.slice none 0 0).ownBlock) (fun b hb => ⟨by omega, by omega, by simp [Value.ownBlock]⟩) (hi' := w0.heap.size) (by omega)
  have hsz : w.heap.size + 2 ≤ w0.heap.size := by omega
  clear hs0
  refine (with_any 7 A ks.length cp (w.heap.size + 1) none 0 0 [] (w.heap.size + 2) w0 hob (by omega) hsz (World.ownsRow_nil _ _ _ _) (by omega)).mono ?_
  rintro e w2 ⟨rfl, V, cv, hob2, hown2, hT, hat⟩
  have hO1 := hO0.push (V' := V) (c' := cv) hT ⟨by omega, by omega⟩ hEF hown2 hat
  have HO := Lib.hid (hO1.own_base (base' := w.heap.size) (by omega))
  have n0 : w2.cell? ⟨w.heap.size + 1, 0, none⟩ = some (.slice V 1 cv) := hob2.cell 0
  have HB := Lib.hid (hb0.trans (hT.below (by omega) (by omega) (fun q hq => by cases hq)))
  clear hob hob2 hT hat hown2 hO1 hO0 hEF hb0
  go_wp2
  go_ret
  exact ⟨HB.out, V, cv, _, rfl, HO.out.less (fun b hb => ⟨hb.1, by omega⟩)⟩
set_option maxRecDepth 100000 in
set_option maxHeartbeats 4000000 in
theorem turns_and (B0 : Nat) (a b c d : Int) (t : ByteArray) (ks : List Ex) (A : Option Addr) (cp : Nat) (w : World) (hB : B0 ≤ w.heap.size) (hE : ExIs w B0 (.mk 10 a b c d t ks) (exCells 10 a b c d t A ks.length cp)) :
    Calls Try.prog 83 #[.agg #[.int .i64 10, .int .u64 a, .int .u64 b, .int .u64 c, .int .u64 d, .string t, .slice A ks.length cp]] w (OutsQ B0 [ofN 11 ks] w) := by
  have hmf : ∀ (fn : Fn) (first cap : Array Value) (w : World), (Instr.makeFunc fn first cap).run Try.prog w = .ok (.func fn first cap) w := fun _ _ _ _ => rfl
  have HX := Lib.hid (node_as hE 11)
  clear hE
  go_enter Try.func83, Try.ntmps83
  go_wp2_with fail
  have hob : Blk ((w.alloc (.cells #[.int .i64 10, .int .u64 a, .int .u64 b, .int .u64 c, .int .u64 d, .string t, .slice A ks.length cp] 38)).alloc (.cells #[.slice none 0 0] 36)) (w.heap.size + 1) 36 #[.slice none 0 0] := blk_at (by simp)
  have hb0 : Below w.heap.size w ((w.alloc (.cells #[.int .i64 10, .int .u64 a, .int .u64 b, .int .u64 c, .int .u64 d, .string t, .slice A ks.length cp] 38)).alloc (.cells #[.slice none 0 0] 36)) := (by repeat (first | exact Below.refl _ _ | assumption | refine Below.drew ?_ | refine below_drewN ?_ _ | refine Below.alloc ?_ (by first | omega | (simp; omega) | simp) _ | refine Below.setCell ?_ (by first | omega | (simp; omega) | simp) _))
  have hs0 : ((w.alloc (.cells #[.int .i64 10, .int .u64 a, .int .u64 b, .int .u64 c, .int .u64 d, .string t, .slice A ks.length cp] 38)).alloc (.cells #[.slice none 0 0] 36)).heap.size = w.heap.size + 2 := by simp
  generalize ((w.alloc (.cells #[.int .i64 10, .int .u64 a, .int .u64 b, .int .u64 c, .int .u64 d, .string t, .slice A ks.length cp] 38)).alloc (.cells #[.slice none 0 0] 36)) = w0 at hob hb0 hs0 ⊢
  have hO0 := Outs.nil (fun b => B0 ≤ b ∧ b < w.heap.size + 2) (w.heap.size + 2) w0
  have hEF := (exF_of HX.out (hb0.mono hB)).mono (S' := fun b => b < w0.heap.size ∧ ¬ (B0 ≤ b ∧ b < w.heap.size + 2) ∧ some b ≠ (Value.slice none 0 0).ownBlock) (fun b hb => ⟨by omega, by omega, by simp [Value.ownBlock]⟩) (hi' := w0.heap.size) (by omega)
  have hsz : w.heap.size + 2 ≤ w0.heap.size := by omega
  clear hs0
  refine (with_any 11 A ks.length cp (w.heap.size + 1) none 0 0 [] (w.heap.size + 2) w0 hob (by omega) hsz (World.ownsRow_nil _ _ _ _) (by omega)).mono ?_
  rintro e w2 ⟨rfl, V, cv, hob2, hown2, hT, hat⟩
  have hO1 := hO0.push (V' := V) (c' := cv) hT ⟨by omega, by omega⟩ hEF hown2 hat
  have HO := Lib.hid (hO1.own_base (base' := w.heap.size) (by omega))
  have n0 : w2.cell? ⟨w.heap.size + 1, 0, none⟩ = some (.slice V 1 cv) := hob2.cell 0
  have HB := Lib.hid (hb0.trans (hT.below (by omega) (by omega) (fun q hq => by cases hq)))
  clear hob hob2 hT hat hown2 hO1 hO0 hEF hb0
  go_wp2
  go_ret
  exact ⟨HB.out, V, cv, _, rfl, HO.out.less (fun b hb => ⟨hb.1, by omega⟩)⟩
set_option maxRecDepth 100000 in
set_option maxHeartbeats 4000000 in
theorem turns_not (B0 : Nat) (a b c d : Int) (t : ByteArray) (ks : List Ex) (A : Option Addr) (cp : Nat) (w : World) (hB : B0 ≤ w.heap.size) (hE : ExIs w B0 (.mk 11 a b c d t ks) (exCells 11 a b c d t A ks.length cp)) :
    Calls Try.prog 83 #[.agg #[.int .i64 11, .int .u64 a, .int .u64 b, .int .u64 c, .int .u64 d, .string t, .slice A ks.length cp]] w (OutsQ B0 [ofN 10 ks] w) := by
  have hmf : ∀ (fn : Fn) (first cap : Array Value) (w : World), (Instr.makeFunc fn first cap).run Try.prog w = .ok (.func fn first cap) w := fun _ _ _ _ => rfl
  have HX := Lib.hid (node_as hE 10)
  clear hE
  go_enter Try.func83, Try.ntmps83
  go_wp2_with fail
  have hob : Blk ((w.alloc (.cells #[.int .i64 11, .int .u64 a, .int .u64 b, .int .u64 c, .int .u64 d, .string t, .slice A ks.length cp] 38)).alloc (.cells #[.slice none 0 0] 36)) (w.heap.size + 1) 36 #[.slice none 0 0] := blk_at (by simp)
  have hb0 : Below w.heap.size w ((w.alloc (.cells #[.int .i64 11, .int .u64 a, .int .u64 b, .int .u64 c, .int .u64 d, .string t, .slice A ks.length cp] 38)).alloc (.cells #[.slice none 0 0] 36)) := (by repeat (first | exact Below.refl _ _ | assumption | refine Below.drew ?_ | refine below_drewN ?_ _ | refine Below.alloc ?_ (by first | omega | (simp; omega) | simp) _ | refine Below.setCell ?_ (by first | omega | (simp; omega) | simp) _))
  have hs0 : ((w.alloc (.cells #[.int .i64 11, .int .u64 a, .int .u64 b, .int .u64 c, .int .u64 d, .string t, .slice A ks.length cp] 38)).alloc (.cells #[.slice none 0 0] 36)).heap.size = w.heap.size + 2 := by simp
  generalize ((w.alloc (.cells #[.int .i64 11, .int .u64 a, .int .u64 b, .int .u64 c, .int .u64 d, .string t, .slice A ks.length cp] 38)).alloc (.cells #[.slice none 0 0] 36)) = w0 at hob hb0 hs0 ⊢
  have hO0 := Outs.nil (fun b => B0 ≤ b ∧ b < w.heap.size + 2) (w.heap.size + 2) w0
  have hEF := (exF_of HX.out (hb0.mono hB)).mono (S' := fun b => b < w0.heap.size ∧ ¬ (B0 ≤ b ∧ b < w.heap.size + 2) ∧ some b ≠ (Value.slice none 0 0).ownBlock) (fun b hb => ⟨by omega, by omega, by simp [Value.ownBlock]⟩) (hi' := w0.heap.size) (by omega)
  have hsz : w.heap.size + 2 ≤ w0.heap.size := by omega
  clear hs0
  refine (with_any 10 A ks.length cp (w.heap.size + 1) none 0 0 [] (w.heap.size + 2) w0 hob (by omega) hsz (World.ownsRow_nil _ _ _ _) (by omega)).mono ?_
  rintro e w2 ⟨rfl, V, cv, hob2, hown2, hT, hat⟩
  have hO1 := hO0.push (V' := V) (c' := cv) hT ⟨by omega, by omega⟩ hEF hown2 hat
  have HO := Lib.hid (hO1.own_base (base' := w.heap.size) (by omega))
  have n0 : w2.cell? ⟨w.heap.size + 1, 0, none⟩ = some (.slice V 1 cv) := hob2.cell 0
  have HB := Lib.hid (hb0.trans (hT.below (by omega) (by omega) (fun q hq => by cases hq)))
  clear hob hob2 hT hat hown2 hO1 hO0 hEF hb0
  go_wp2
  go_ret
  exact ⟨HB.out, V, cv, _, rfl, HO.out.less (fun b hb => ⟨hb.1, by omega⟩)⟩
end Go.Proofs.Ytefechceoeeonaa
