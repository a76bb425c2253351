/- Books, walks: quote.Undec and quote.Unlit of any text; book.one. -/
import Derived.Test.YtndhbdbfjkmloaaDoorBoP
import Derived.Test.YtndhbdbfjkmloaaDoorShI
import Derived.Test.YtndhbdbfjkmloaaDoorAtA
import Derived.Test.YtndhbdbfjkmloaaDoorCutA
import Derived.Test.YtndhbdbfjkmloaaDoorQoD
import Derived.Test.YtndhbdbfjkmloaaDoorQuo5
import Derived.Test.YtndhbdbfjkmloaaDoorQSpl
import Derived.Lib.SmallJoins
namespace Go.Proofs.YtndhbdbfjkmloaaDoor
open Go.RowKit

/-- the library's variable holds an int -/
def MaxP (w : World) : Prop := ∃ m, w.cell? ⟨1, 0, none⟩ = some (.int .i64 m)
/-- an error variable of the library's -/
def ErrP (k : Nat) (w : World) : Prop := ∃ ev, w.cell? ⟨k, 0, none⟩ = some ev ∧ (ev = .nilIface ∨ ∃ te pe, ev = .iface te pe)
theorem MaxP.on {w w' : World} (h : MaxP w) (hb : Below w.heap.size w w') : MaxP w' := by
  obtain ⟨m, hm⟩ := h
  exact ⟨m, (hb.cell (p := ⟨_, 0, none⟩) (World.block_lt_of_cell? w _ hm)).trans hm⟩
theorem ErrP.on {k : Nat} {w w' : World} (h : ErrP k w) (hb : Below w.heap.size w w') : ErrP k w' := by
  obtain ⟨m, hm, hv⟩ := h
  exact ⟨m, (hb.cell (p := ⟨_, 0, none⟩) (World.block_lt_of_cell? w _ hm)).trans hm, hv⟩
/-- what of the library's variables the books want -/
structure LibP (w : World) : Prop where
  pow : TabP w
  max : MaxP w
  syn : ErrP 5 w
  ran : ErrP 6 w
theorem LibP.on {w w' : World} (h : LibP w) (hb : Below w.heap.size w w') : LibP w' := ⟨h.pow.on hb, h.max.on hb, h.syn.on hb, h.ran.on hb⟩

set_option maxRecDepth 100000 in
theorem qdec_all (n : Int) (hn : I64 n) (w : World) (hT : TabP w) : Calls Tryd.prog 39 #[.int .i64 n] w fun e w' => e = .returned (.string (itoaB n)) ∧ Below w.heap.size w w' := by
  obtain ⟨h0, h1⟩ := hn
  have hi := sh_strconv_Itoa n h0 h1 w hT
  have HI := Lib.hid hi
  clear hi hT
  go_enter Tryd.func39, Tryd.ntmps39
  go_wp2_with fail
  refine HI.out.mono ?_
  rintro e w1 ⟨rfl, k, os, rfl⟩
  have hb := grow_below2 w k os
  generalize Sort.grow (w.drewN k) os = w1 at hb ⊢
  go_wp2
  go_ret
  exact ⟨rfl, hb⟩
theorem atoi_belowx {w w' : World} (h : w' = w ∨ ∃ t, w' = Lib.bytesWorld w 5 t) : Below w.heap.size w w' := by
  rcases h with rfl | ⟨t, rfl⟩
  · exact Below.refl _ _
  · exact Joins.below_bytesWorld _ _ _ _ (Nat.le_refl _)
theorem bytes_eqx {s t : ByteArray} (h : s.toList = t.toList) : s.data.toList = t.data.toList := by rw [← ByteArray.toList_eq, ← ByteArray.toList_eq]; exact h
def undV : Option Int → Value
  | some v => .tuple #[.int .i64 v, .int .i64 0]
  | none => .tuple #[.int .i64 0, .int .i64 3]
set_option maxRecDepth 100000 in
set_option maxHeartbeats 4000000 in
theorem undec_all (s : ByteArray) (hs : s.size ≤ 2000) (w : World) (hT : LibP w) : Calls Tryd.prog 76 #[.string s] w fun e w' => e = .returned (undV (undR s.data.toList)) ∧ Below w.heap.size w w' := by
  have hsl := size_list s
  obtain ⟨es, hes1, hes2⟩ := hT.syn
  obtain ⟨er, her1, her2⟩ := hT.ran
  cases ha : Lib.atoiAll s.data.toList with
  | ok v =>
    obtain ⟨v0, v1⟩ := Lib.atoiAll_bounds ha
    have hA := sh_strconv_Atoi_ok s (by omega) v ha w
    have HI := Lib.hid (fun W (hW : Below w.heap.size w W) => (sh_strconv_Itoa v v0 v1 W (hT.pow.on hW)).mono (R' := fun e w' => e = .returned (.string (itoaB v)) ∧ Below W.heap.size W w') fun e w' ⟨he, k, os, hk⟩ => ⟨he, by rw [hk]; exact grow_below2 _ _ _⟩)
    have HA := Lib.hid hA
    have hne : (Lib.itoa v ≠ s.data.toList) ↔ ¬ (itoaB v).toList = s.toList := by
      rw [ByteArray.toList_eq, ByteArray.toList_eq]
      exact Iff.rfl
    have hun : undR s.data.toList = if 9 < s.size ∨ v < 0 ∨ Lib.itoa v ≠ s.data.toList then none else some v := by unfold undR; rw [ha, hsl]
    clear hA ha hT hes1 hes2 her1 her2
    by_cases h9 : 9 < s.size
    · have h9i : (9 : Int) < (s.size : Int) := by omega
      rw [hun, if_pos (.inl h9)]
      clear hun
      clear hne HI
      go_enter Tryd.func76, Tryd.ntmps76
      go_wp2_with fail
      refine HA.out.mono ?_
      rintro e w1 ⟨rfl, hw⟩
      have hb := atoi_belowx hw
      clear hw
      go_wp2
      go_ret2
      exact ⟨rfl, hb⟩
    have h9i : ¬ (9 : Int) < (s.size : Int) := by omega
    by_cases hv0 : v < 0
    · rw [hun, if_pos (.inr (.inl hv0))]
      clear hun
      clear hne HI
      go_enter Tryd.func76, Tryd.ntmps76
      go_wp2_with fail
      refine HA.out.mono ?_
      rintro e w1 ⟨rfl, hw⟩
      have hb := atoi_belowx hw
      clear hw
      go_wp2
      go_ret2
      exact ⟨rfl, hb⟩
    by_cases hq : Lib.itoa v ≠ s.data.toList
    · have hq2 := hne.1 hq
      rw [hun, if_pos (.inr (.inr hq))]
      clear hun
      clear hne hq
      generalize itoaB v = t at HI hq2
      have hq3 : (t.toList == s.toList) = false := by rw [beq_eq_false_iff_ne]; exact hq2
      go_enter Tryd.func76, Tryd.ntmps76
      go_wp2_with fail
      refine HA.out.mono ?_
      rintro e w1 ⟨rfl, hw⟩
      have hb := atoi_belowx hw
      clear hw
      go_wp2_with fail
      refine (HI.out _ hb).mono ?_
      rintro e w2 ⟨rfl, hb2⟩
      have hb3 := hb.trans (hb2.mono hb.size)
      go_wp2
      go_ret2
      exact ⟨rfl, hb3⟩
    · have hq2 : (itoaB v).toList = s.toList := Classical.byContradiction fun h => hq (hne.2 h)
      rw [hun, if_neg (by rintro (h | h | h) <;> contradiction)]
      clear hun
      clear hne hq
      generalize itoaB v = t at HI hq2
      go_enter Tryd.func76, Tryd.ntmps76
      go_wp2_with fail
      refine HA.out.mono ?_
      rintro e w1 ⟨rfl, hw⟩
      have hb := atoi_belowx hw
      clear hw
      go_wp2_with fail
      refine (HI.out _ hb).mono ?_
      rintro e w2 ⟨rfl, hb2⟩
      have hb3 := hb.trans (hb2.mono hb.size)
      go_wp2
      go_ret2
      exact ⟨rfl, hb3⟩
  | «syntax» =>
    have hA := (sh_strconv_Atoi_syntax s (by omega) ha es w hes1 hes2).mono (R' := fun e w' => (∃ N : Nat, e = .returned (.tuple #[.int .i64 0, .iface 207 (.pointer (some ⟨N, 0, none⟩))])) ∧ Below w.heap.size w w') fun e w' ⟨N, he, _, _, hb⟩ => ⟨⟨N, he⟩, hb⟩
    have HA := Lib.hid hA
    rw [show undR s.data.toList = none from by unfold undR; rw [ha]]
    clear hA ha hT hes1 hes2 her1 her2
    go_enter Tryd.func76, Tryd.ntmps76
    go_wp2_with fail
    refine HA.out.mono ?_
    rintro e w1 ⟨⟨N, rfl⟩, hb⟩
    go_wp2
    go_ret2
    exact ⟨rfl, hb⟩
  | range =>
    obtain ⟨sb0, sb1⟩ := Lib.atoiSat_bounds s.data.toList
    have hA := (sh_strconv_Atoi_range s (by omega) ha er w her1 her2).mono (R' := fun e w' => (∃ N : Nat, e = .returned (.tuple #[.int .i64 (Lib.atoiSat s.data.toList), .iface 207 (.pointer (some ⟨N, 0, none⟩))])) ∧ Below w.heap.size w w') fun e w' ⟨N, he, _, _, hb⟩ => ⟨⟨N, he⟩, hb⟩
    generalize Lib.atoiSat s.data.toList = sat at hA sb0 sb1
    have HA := Lib.hid hA
    rw [show undR s.data.toList = none from by unfold undR; rw [ha]]
    clear hA ha hT hes1 hes2 her1 her2
    go_enter Tryd.func76, Tryd.ntmps76
    go_wp2_with fail
    refine HA.out.mono ?_
    rintro e w1 ⟨⟨N, rfl⟩, hb⟩
    go_wp2
    go_ret2
    exact ⟨rfl, hb⟩

theorem unl_len (q : Nat) (sg : List UInt8) : ∀ (f : Nat) (l o : List UInt8) (c : Nat), unl q sg f l = some (o, c) → o.length ≤ f
  | 0, l, o, c, h => by cases h
  | f + 1, [], o, c, h => by cases h
  | f + 1, b :: l, o, c, h => by
    rw [unl_step _ _ _ (by simp)] at h
    split at h
    · injection h with h; injection h with h1 h2; subst h1; simp
    · split at h
      · cases h
      · cases hx : unl q sg f ((b :: l).drop (nextN sg (b :: l)).2) with
        | none => rw [hx] at h; cases h
        | some y =>
          rw [hx] at h
          have := unl_len q sg f _ y.1 y.2 hx
          simp only [Option.map_some] at h
          injection h with h; injection h with h1 h2
          subst h1
          simp
          omega
/-- what quote.Unlit answers -/
def UnlQ (r : Option (List UInt8 × Nat)) (w : World) (e : Ending) (w' : World) : Prop := Below w.heap.size w w' ∧ e = match r with
  | some (o, c) => .returned (.tuple #[.string ⟨o.toArray⟩, .int .i64 ((1 + c : Nat) : Int), .int .i64 0])
  | none => .returned (.tuple #[.string ⟨#[]⟩, .int .i64 0, .int .i64 4])
set_option maxRecDepth 100000 in
theorem unlit_whole (s : ByteArray) (hs : s.size ≤ 2000) (w : World) : Calls Tryd.prog 77 #[.string s] w (UnlQ (unlR s.data.toList) w) := by
  have hsl := size_list s
  unfold unlR
  by_cases hq : bt s.data.toList 0 = 39 ∨ bt s.data.toList 0 = 34
  · have h0 : 0 < s.size := by
      rcases Nat.eq_zero_or_pos s.size with h | h
      · have : s.data.toList = [] := List.eq_nil_of_length_eq_zero (by omega)
        rw [this] at hq
        rcases hq with hq | hq <;> cases hq
      · exact h
    rw [if_pos hq, hsl]
    cases hx : unl (bt s.data.toList 0) sgU.data.toList s.size (s.data.toList.drop 1) with
    | none => exact (unlit_no s w (by omega) h0 _ rfl hq (by omega) hx).mono fun e w' ⟨h, hb⟩ => ⟨hb, h⟩
    | some y =>
      obtain ⟨o, c⟩ := y
      have := unl_len _ _ _ _ _ _ hx
      exact (unlit_yes s w (by omega) h0 _ rfl hq o c hx (by omega)).mono fun e w' ⟨h, hb⟩ => ⟨hb, h⟩
  · rw [if_neg hq]
    have HQ : Hid (∀ w', Below w.heap.size w w' → UnlQ none w (.returned (.tuple #[.string ⟨#[]⟩, .int .i64 0, .int .i64 4])) w') := fun w' h => ⟨h, rfl⟩
    generalize UnlQ none w = Q at HQ ⊢
    rcases Nat.eq_zero_or_pos s.size with h0 | h0
    · have hl : s.data.toList = [] := List.eq_nil_of_length_eq_zero (by omega)
      have hne : s.toList.isEmpty = true := by rw [ByteArray.toList_eq, hl]; rfl
      clear hq hl
      go_enter Tryd.func77, Tryd.ntmps77
      go_wp2
      go_ret3
      exact HQ.out _ (Below.refl _ _)
    · have hb0 := bt_of h0
      have hne : s.toList.isEmpty = false := by
        rw [ByteArray.toList_eq]
        cases h : s.data.toList with
        | nil => rw [h] at hsl; simp at hsl; omega
        | cons => rfl
      generalize bt s.data.toList 0 = x at hb0 hq
      have b1 : ((x : Int) != 39) = true := by rw [bne_iff_ne]; omega
      have b2 : ((x : Int) != 34) = true := by rw [bne_iff_ne]; omega
      clear hq
      go_enter Tryd.func77, Tryd.ntmps77
      go_wp2
      go_ret3
      exact HQ.out _ (Below.refl _ _)
end Go.Proofs.YtndhbdbfjkmloaaDoor
