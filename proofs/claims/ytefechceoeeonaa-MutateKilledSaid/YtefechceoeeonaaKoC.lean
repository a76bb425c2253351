/- slices.Grow of nothing, slices.Concat of two rows of texts. -/
import Derived.Test.YtefechceoeeonaaKoB
import Derived.Deep.DeepAppendRoom
import Derived.Lib.AppendZeros
import Derived.Lib.SliceRun
namespace Go.Proofs.Ytefechceoeeonaa
open Go.RowKit Go.Maps Go.Lib

theorem str_info' : (Try.prog.info? 9).map (fun i => (i.zero, i.size, i.bytes)) = some (some (.string ByteArray.empty), 1, 16) := by kernel_rfl
/-- a row that has room for so many -/
def RoomQ (n : Nat) (w : World) (e : Ending) (w' : World) : Prop := Below w.heap.size w w' ∧ ((n = 0 ∧ e = .returned (.slice none 0 0)) ∨ ∃ b G, n ≤ G ∧ e = .returned (.slice (some ⟨b, 0, none⟩) 0 G) ∧ w'.ownsRow w.heap.size 9 1 (.slice (some ⟨b, 0, none⟩) 0 G) 0 [])
theorem zeroCells_len (z : Array Value) (n : Nat) : (Builtin.zeroCells z n).size = n * z.size := by simp [Builtin.zeroCells]
set_option maxRecDepth 100000 in
set_option maxHeartbeats 4000000 in
theorem grow_any (n : Nat) (hn : n ≤ 17592186044416) (w : World) : Calls Try.prog 70 #[.slice none 0 0, .int .i64 n] w (RoomQ n w) := by
  obtain ⟨i0, hi0, hz0, hz1, hz2⟩ := info_parts str_info'
  have h1 : ¬ ((n : Int) < 0) := by omega
  have h3 : IntKind.i64.wrap (n : Int) = (n : Int) := wrap_i64 _ (by omega) (by omega)
  have HQ1 : Hid (∀ w', n = 0 → Below w.heap.size w w' → RoomQ n w (.returned (.slice none 0 0)) w') := fun w' h hb => ⟨hb, .inl ⟨h, rfl⟩⟩
  have HQ2 : Hid (∀ b G w', n ≤ G → Below w.heap.size w w' → w'.ownsRow w.heap.size 9 1 (.slice (some ⟨b, 0, none⟩) 0 G) 0 [] → RoomQ n w (.returned (.slice (some ⟨b, 0, none⟩) 0 G)) w') := fun b G w' h hb ho => ⟨hb, .inr ⟨b, G, h, rfl, ho⟩⟩
  generalize RoomQ n w = Q at HQ1 HQ2 ⊢
  rcases Nat.eq_zero_or_pos n with h0 | h0
  · subst h0
    go_enter Try.func70, Try.ntmps70
    go_wp2
    exact HQ1.out _ (by trivial) (Below.refl _ _)
  · have h4 : (0 : Int) < (n : Int) := by omega
    have hrz : ∀ ty, (Builtin.append_ #[61, 3] ty #[.slice none 0 0, .int .i64 n]).run Try.prog w = .ok (.slice (some ⟨w.heap.size, 0, none⟩) n (grownCap w n 0 9)) (w.drew.alloc (.cells (Builtin.zeroCells (Value.string ByteArray.empty).cells n ++ Builtin.zeroCells (Value.string ByteArray.empty).cells (grownCap w n 0 9 - n)) 9)) := fun ty =>
      Lib.run_append_nil_zeros w _ _ ty 9 i0 _ .i64 .i64 Try.underlying61 Try.underlying3 hi0 hz0 n h0 (by omega) (by omega) (by rw [hz2]; omega)
    have hGn : n ≤ grownCap w n 0 9 := grownCap_ge w _ _ _
    have hGm : grownCap w n 0 9 ≤ maxLen := grownCap_le_maxLen w _ _ _ (by unfold maxLen; omega)
    obtain ⟨G, hG⟩ : ∃ G, grownCap w n 0 9 = G := ⟨_, rfl⟩
    rw [hG] at hrz hGn hGm
    have hown : (w.drew.alloc (.cells (Builtin.zeroCells (Value.string ByteArray.empty).cells n ++ Builtin.zeroCells (Value.string ByteArray.empty).cells (G - n)) 9)).ownsRow w.heap.size 9 1 (.slice (some ⟨w.heap.size, 0, none⟩) 0 G) 0 [] :=
      ⟨rfl, .inr ⟨_, _, _, rfl, Nat.le_refl _, blk_at rfl, by omega, hGm, by rw [Array.size_append, zeroCells_len, zeroCells_len]; show n * 1 + (G - n) * 1 = _; omega, by simp⟩⟩
    have hb : Below w.heap.size w (w.drew.alloc (.cells (Builtin.zeroCells (Value.string ByteArray.empty).cells n ++ Builtin.zeroCells (Value.string ByteArray.empty).cells (G - n)) 9)) := (Below.refl _ _).drew.alloc (Nat.le_refl _) _
    generalize (w.drew.alloc (.cells (Builtin.zeroCells (Value.string ByteArray.empty).cells n ++ Builtin.zeroCells (Value.string ByteArray.empty).cells (G - n)) 9)) = w1 at hrz hown hb
    have HQ3 := Lib.hid (HQ2.out _ _ _ hGn hb hown)
    have HRZ := Lib.hid hrz
    have hGi : (0 : Int) ≤ (G : Int) := by omega
    clear hG hown hb hrz HQ1 HQ2
    go_enter Try.func70, Try.ntmps70
    go_wp2_with (at_builtin; refine Lib.wpList_append_run _ rfl _ _ _ _ rfl _ _ rfl rfl _ _ (HRZ.out _) ?_)
    all_goals exact HQ3.out

theorem run_append_zero {P : Program} {w : World} (base : Nat) (t ty e : TypeId) (i : TypeInfo) (size : Nat) (ht : P.underlying t = some (.slice e)) (hi : P.info? e = some i) (v : Value) (n : Nat) (xs : List Value) (hown : w.ownsRow base e size v n xs) (A : Option Addr) (c : Nat) :
    (Builtin.append_ #[t, t] ty #[v, .slice A 0 c]).run P w = .ok v w := by
  have hf : (Builtin.firstCells i.size 0 (.slice A 0 c)).run P w = .ok #[] w := by
    cases A with
    | none => simp [Builtin.firstCells]
    | some a => exact run_firstCells_some w i.size 0 a 0 c [] (by simp) (by simp)
  rcases hown.2 with ⟨rfl, rfl⟩ | ⟨g, cap, cur, rfl, _, _, hnc, _⟩
  · simp [Builtin.append_, run_underlying ht, sizeOf, typeInfo, hi, Builtin.lenOf, hf]
  · simp [Builtin.append_, run_underlying ht, sizeOf, typeInfo, hi, Builtin.lenOf, hf, hnc, storeCells]
theorem one_str (l : List ByteArray) : ∀ u ∈ l.map Value.string, u.oneCell' = true := fun u hu => by
  obtain ⟨s, _, rfl⟩ := List.mem_map.1 hu
  rfl
/-- the texts of so many parts -/
def preL (T M : List ByteArray) (j : Nat) : List ByteArray := if j = 0 then [] else if j = 1 then T else T ++ M
theorem preL_len (T M : List ByteArray) (j : Nat) : (preL T M j).length ≤ T.length + M.length := by
  unfold preL
  split
  · simp
  split
  · omega
  · simp
/-- what slices.Concat answers of two -/
def CatQ (T M : List ByteArray) (w : World) (e : Ending) (w' : World) : Prop := Below w.heap.size w w' ∧ ∃ V c, e = .returned (.slice V (T ++ M).length c) ∧ Reads w' w'.heap.size 1 V (T ++ M).length ((T ++ M).map Value.string)
set_option maxRecDepth 100000 in
set_option maxHeartbeats 8000000 in
theorem concat_any {T M : List ByteArray} {TA MA : Option Addr} {tc mc lb : Nat} {w : World} (hb : Blk w lb 61 #[.slice TA T.length tc, .slice MA M.length mc]) (hT : Reads w w.heap.size 1 TA T.length (T.map Value.string)) (hM : Reads w w.heap.size 1 MA M.length (M.map Value.string)) (h1 : T.length ≤ 8796093022208) (h2 : M.length ≤ 8796093022208) :
    Calls Try.prog 35 #[.slice (some ⟨lb, 0, none⟩) 2 2] w (CatQ T M w) := by
  obtain ⟨i0, hi0, hz0, hz1, hz2⟩ := info_parts str_info'
  have hgr := fun W => grow_any (T.length + M.length) (by omega) W
  have HG := Lib.hid hgr
  have HQ : Hid (∀ V c n w', n = T.length + M.length → Below w.heap.size w w' → Reads w' w'.heap.size 1 V n ((T ++ M).map Value.string) → CatQ T M w (.returned (.slice V n c)) w') := fun V c n w' hn hb hr => ⟨hb, V, c, by subst hn; rw [List.length_append], by subst hn; rw [List.length_append]; exact hr⟩
  generalize CatQ T M w = Q at HQ ⊢
  have HT := Lib.hid hT
  have HM := Lib.hid hM
  have e0 : w.cell? ⟨lb, 0, none⟩ = some (.slice TA T.length tc) := hb.cell 0
  have e1 : w.cell? ⟨lb, 1, none⟩ = some (.slice MA M.length mc) := hb.cell 1
  have hz : T.map Value.string ++ M.map Value.string = (T ++ M).map Value.string := by rw [List.map_append]
  have HZ := Lib.hid hz
  clear hgr hT hM hz
  go_enter Try.func35, Try.ntmps35
  go_wp2
  go_loopw [3, 11] (fun v i wr => ∃ j : Nat, j ≤ 2 ∧ i = .int .i64 j ∧ v = .int .i64 ((if j = 0 then 0 else if j = 1 then T.length else T.length + M.length : Nat) : Int) ∧ wr = w) (fun _ i _ => 2 - (intOf i).toNat)
  case atStart => exact ⟨0, by omega, rfl, rfl, rfl⟩
  case round =>
    obtain ⟨j, hj, rfl, rfl, rfl⟩ := hrel
    match j, hj with
    | 0, _ =>
      have q1 : IntKind.i64.wrap (T.length : Int) = (T.length : Int) := wrap_i64 _ (by omega) (by omega)
      have q2 : ((T.length : Int) < 0) = False := by first | (simp; done) | (simp; omega)
      simp only [if_true]
      go_wp2
      go_roundw
      case rel => exact ⟨1, by omega, by go_num, by first | rfl | simp, by first | rfl | trivial⟩
      case measure => simp [intOf]
    | 1, _ =>
      have q1 : IntKind.i64.wrap ((T.length : Int) + (M.length : Int)) = ((T.length + M.length : Nat) : Int) := by rw [wrap_i64 _ (by omega) (by omega)]; omega
      have q2 : (((T.length + M.length : Nat) : Int) < 0) = False := by simp; omega
      simp only [Nat.one_ne_zero, if_false, if_true]
      go_wp2
      go_roundw
      case rel => exact ⟨2, by omega, by go_num, by first | rfl | simp, by first | rfl | trivial⟩
      case measure => simp [intOf]
    | 2, _ =>
      rename World => ws
      simp only [show ¬ (2 = 0) by omega, show ¬ (2 = 1) by omega, if_false]
      go_wp2_with fail
      refine (HG.out _).mono ?_
      rintro e w1 ⟨hb1, hq⟩
      have d0 := (hb.below hb1 hb.lt).cell 0
      have d1 := (hb.below hb1 hb.lt).cell 1
      simp at d0 d1
      have hz1' := hb1.size
      have hlt := hb.lt
      have hrow : ∃ (V : Option Addr) (c : Nat), e = .returned (.slice V 0 c) ∧ w1.ownsRow ws.heap.size 9 1 (.slice V 0 c) 0 [] ∧ (T.length + M.length = 0 ∨ (T.length + M.length ≤ c ∧ ∃ gb, V = some ⟨gb, 0, none⟩)) := by
        rcases hq with ⟨h0, rfl⟩ | ⟨gb, G, hG, rfl, hown⟩
        · exact ⟨none, 0, rfl, World.ownsRow_nil _ _ _ _, .inl h0⟩
        · exact ⟨_, G, rfl, hown, .inr ⟨hG, gb, rfl⟩⟩
      obtain ⟨V, c, rfl, hown, hV⟩ := hrow
      have hlb : lb < w1.heap.size := by omega
      clear hq
      go_wp2
      go_loopw [6, 27] (fun v i wx => ∃ j : Nat, j ≤ 2 ∧ i = .int .i64 j ∧ v = .slice V (preL T M j).length c ∧ Hid (wx.ownsRow ws.heap.size 9 1 (.slice V (preL T M j).length c) (preL T M j).length ((preL T M j).map Value.string)) ∧ Below ws.heap.size ws wx) (fun _ i _ => 2 - (intOf i).toNat)
      case atStart => exact ⟨0, by omega, rfl, rfl, hown, hb1⟩
      case round =>
        clear hown hb1 d0 d1 hz1'
        obtain ⟨j, hj, rfl, rfl, HO, hwr⟩ := hrel
        have hzr := hwr.size
        have d0 := (hb.below hwr hb.lt).cell 0
        have d1 := (hb.below hwr hb.lt).cell 1
        simp at d0 d1
        match j, hj with
        | 0, _ =>
          have hX := HT.out.below hwr
          have hlen : (preL T M 1).length = (preL T M 0).length + T.length := by simp [preL]
          have hmap : ((preL T M 0).map Value.string) ++ (T.map Value.string) = (preL T M 1).map Value.string := by simp [preL]
          have hle := preL_len T M 1
          have HMAP := Lib.hid hmap
          have HLEN := Lib.hid hlen
          rcases Nat.eq_zero_or_pos T.length with hx0 | hx0
          · have hnil : T = [] := List.eq_nil_of_length_eq_zero hx0
            have hpp : preL T M 1 = preL T M 0 := by
              have h := hlen
              rw [hx0, Nat.add_zero] at h
              first
                | (simp [preL, hnil]; done)
                | (subst hnil; simp [preL])
            have hr0 := fun ty => run_append_zero (P := Try.prog) (w := wr) ws.heap.size 61 ty 9 i0 1 Try.underlying61 hi0 _ _ _ HO.out TA tc
            have HR0 := Lib.hid hr0
            have HPP := Lib.hid hpp
            rw [hx0] at d0
            clear hr0 hX hlen hmap hle hpp hx0 hnil
            go_wp2_with (at_builtin; refine Lib.wpList_append_run _ rfl _ _ _ _ rfl _ _ rfl rfl _ _ (HR0.out _) ?_)
            go_roundw
            case rel =>
              exact ⟨1, by omega, by go_num, by rw [HPP.out], by rw [HPP.out]; exact HO, hwr⟩
            case measure => simp [intOf]
          · obtain ⟨ad, hA, hab, hcl⟩ := hX.lies hx0
            have hAA : TA = some ad := hA
            subst hAA
            rcases hV with hV | ⟨hV, gb, hVg⟩
            · omega
            subst hVg
            have HCL := Lib.hid hcl
            clear hX hcl
            go_wp2_with (at_builtin; refine wpList_append_own_spare _ rfl _ _ 61 rfl ws.heap.size 9 i0 1 Try.underlying61 hi0 hz1 gb _ c _ rfl HO.out ad _ _ (T.map Value.string) rfl (by simp) HCL.out (one_str _) (by omega) ?_; intro w4 hown4 hgr4)
            have hw4 : Below ws.heap.size ws w4 := below_app hwr HO.out hgr4 (by omega) (by omega)
            rw [HMAP.out, ← HLEN.out] at hown4
            go_roundw
            case rel => exact ⟨1, by omega, by go_num, by rw [HLEN.out], hown4, hw4⟩
            case measure => simp [intOf]
        | 1, _ =>
          have hX := HM.out.below hwr
          have hlen : (preL T M 2).length = (preL T M 1).length + M.length := by simp [preL]
          have hmap : ((preL T M 1).map Value.string) ++ (M.map Value.string) = (preL T M 2).map Value.string := by simp [preL]
          have hle := preL_len T M 2
          have HMAP := Lib.hid hmap
          have HLEN := Lib.hid hlen
          rcases Nat.eq_zero_or_pos M.length with hx0 | hx0
          · have hnil : M = [] := List.eq_nil_of_length_eq_zero hx0
            have hpp : preL T M 2 = preL T M 1 := by
              have h := hlen
              rw [hx0, Nat.add_zero] at h
              first
                | (simp [preL, hnil]; done)
                | (subst hnil; simp [preL])
            have hr0 := fun ty => run_append_zero (P := Try.prog) (w := wr) ws.heap.size 61 ty 9 i0 1 Try.underlying61 hi0 _ _ _ HO.out MA mc
            have HR0 := Lib.hid hr0
            have HPP := Lib.hid hpp
            rw [hx0] at d1
            clear hr0 hX hlen hmap hle hpp hx0 hnil
            go_wp2_with (at_builtin; refine Lib.wpList_append_run _ rfl _ _ _ _ rfl _ _ rfl rfl _ _ (HR0.out _) ?_)
            go_roundw
            case rel =>
              exact ⟨2, by omega, by go_num, by rw [HPP.out], by rw [HPP.out]; exact HO, hwr⟩
            case measure => simp [intOf]
          · obtain ⟨ad, hA, hab, hcl⟩ := hX.lies hx0
            have hAA : MA = some ad := hA
            subst hAA
            rcases hV with hV | ⟨hV, gb, hVg⟩
            · omega
            subst hVg
            have HCL := Lib.hid hcl
            clear hX hcl
            go_wp2_with (at_builtin; refine wpList_append_own_spare _ rfl _ _ 61 rfl ws.heap.size 9 i0 1 Try.underlying61 hi0 hz1 gb _ c _ rfl HO.out ad _ _ (M.map Value.string) rfl (by simp) HCL.out (one_str _) (by omega) ?_; intro w4 hown4 hgr4)
            have hw4 : Below ws.heap.size ws w4 := below_app hwr HO.out hgr4 (by omega) (by omega)
            rw [HMAP.out, ← HLEN.out] at hown4
            go_roundw
            case rel => exact ⟨2, by omega, by go_num, by rw [HLEN.out], hown4, hw4⟩
            case measure => simp [intOf]
        | 2, _ =>
          have hp : preL T M 2 = T ++ M := by simp [preL]
          have hn : (preL T M 2).length = T.length + M.length := by rw [hp, List.length_append]
          have hrd := Reads.of_own HO.out
          rw [hn, hp] at hrd
          have HQ2 := Lib.hid (HQ.out V c _ _ rfl hwr hrd)
          rw [hn] at HO ⊢
          clear hrd HO
          go_wp2
          first | exact HQ2.out | (go_ret; exact HQ2.out)
end Go.Proofs.Ytefechceoeeonaa
