/- The walk of the law GreedyAll. -/
import Derived.Test.YtphfckihdhmhpaaGdD
import Derived.Test.YtphfckihdhmhpaaGC
namespace Go.Proofs.Ytphfckihdhmhpaa
open Go.RowKit

def rows3 : List (List Int) := [[1, 0, 0], [1, 1, 0], [0, 0, 1]]
theorem rows3_check : chkR rows3 = 0 := by decide +kernel
theorem pick3 {l : List Nat} (P : PicksOk (2 * rowL rows3) (rows3.map says) l) (D : ∀ q ∈ rows3.map says, gainB (2 * rowL rows3) (unionB (rows3.map says) l) q = 0) : l = [1, 2] := by
  have hd : ∀ (l : List Nat) (j : Nat) (q : Nat → Bool), (rows3.map says)[j]? = some q → gainB 6 (unionB (rows3.map says) l) q = gainB 6 (unionB (rows3.map says) l) (sayR (rows3.map says) j) := fun l j q h => by rw [sayR_of h]
  have hm : ∀ (j : Nat) (q : Nat → Bool), (rows3.map says)[j]? = some q → q ∈ rows3.map says := fun j q h => List.mem_of_getElem? h
  have h3 : ∀ j, j < 3 → ∃ q, (rows3.map says)[j]? = some q := fun j hj => ⟨_, List.getElem?_eq_getElem (by simpa [rows3] using hj)⟩
  have hl : ∀ (j : Nat) (q : Nat → Bool), (rows3.map says)[j]? = some q → j < 3 := fun j q h => by have := getElem?_lt h; simpa [rows3] using this
  obtain ⟨q0, e0⟩ := h3 0 (by omega)
  obtain ⟨q1, e1⟩ := h3 1 (by omega)
  obtain ⟨q2, e2⟩ := h3 2 (by omega)
  have hN : 2 * rowL rows3 = 6 := rfl
  rw [hN] at P D
  cases l with
  | nil =>
    have := D q1 (hm 1 q1 e1)
    rw [hd _ 1 q1 e1] at this
    exact absurd this (by decide +kernel)
  | cons i l =>
    obtain ⟨r, hb⟩ := P 0 i rfl
    have hi := hl i r hb.at_
    have hi1 : i = 1 := by
      have := hb.most q1 (hm 1 q1 e1)
      rw [hd _ 1 q1 e1, hd _ i r hb.at_, List.take_zero] at this
      rcases (by omega : i = 0 ∨ i = 1 ∨ i = 2) with rfl | rfl | rfl
      · exact absurd this (by decide +kernel)
      · rfl
      · exact absurd this (by decide +kernel)
    subst hi1
    cases l with
    | nil =>
      have := D q2 (hm 2 q2 e2)
      rw [hd _ 2 q2 e2] at this
      exact absurd this (by decide +kernel)
    | cons j l =>
      obtain ⟨r', hb'⟩ := P 1 j rfl
      have hj := hl j r' hb'.at_
      have hj2 : j = 2 := by
        have := hb'.pos
        rw [hd _ j r' hb'.at_] at this
        have e : List.take 1 (1 :: j :: l) = [1] := rfl
        rw [e] at this
        rcases (by omega : j = 0 ∨ j = 1 ∨ j = 2) with rfl | rfl | rfl
        · exact absurd this (by decide +kernel)
        · exact absurd this (by decide +kernel)
        · rfl
      subst hj2
      cases l with
      | nil => rfl
      | cons k l =>
        obtain ⟨r'', hb''⟩ := P 2 k rfl
        have hk := hl k r'' hb''.at_
        have := hb''.pos
        rw [hd _ k r'' hb''.at_] at this
        have e : List.take 2 (1 :: 2 :: k :: l) = [1, 2] := rfl
        rw [e] at this
        rcases (by omega : k = 0 ∨ k = 1 ∨ k = 2) with rfl | rfl | rfl
        · exact absurd this (by decide +kernel)
        · exact absurd this (by decide +kernel)
        · exact absurd this (by decide +kernel)
theorem rows3_is {w : World} {b0 b1 b2 b3 : Nat} (h0 : Blk w b0 3 #[.int .i64 1, .int .i64 0, .int .i64 0]) (h1 : Blk w b1 3 #[.int .i64 1, .int .i64 1, .int .i64 0]) (h2 : Blk w b2 3 #[.int .i64 0, .int .i64 0, .int .i64 1])
    (h3 : Blk w b3 63 #[.slice (some ⟨b0, 0, none⟩) 3 3, .slice (some ⟨b1, 0, none⟩) 3 3, .slice (some ⟨b2, 0, none⟩) 3 3]) : RowsIs w w.heap.size rows3 (some ⟨b3, 0, none⟩) 3 :=
  ⟨by decide, by unfold maxLen; omega, fun i r hr => by
    match i, hr with
    | 0, hr =>
      injection hr with hr
      subst hr
      exact ⟨_, some ⟨b0, 0, none⟩, 3, rfl, h3.lt, h3.cell 0, by decide, by unfold maxLen; omega, reads_block h0 rfl rfl h0.lt⟩
    | 1, hr =>
      injection hr with hr
      subst hr
      exact ⟨_, some ⟨b1, 0, none⟩, 3, rfl, h3.lt, h3.cell 1, by decide, by unfold maxLen; omega, reads_block h1 rfl rfl h1.lt⟩
    | 2, hr =>
      injection hr with hr
      subst hr
      exact ⟨_, some ⟨b2, 0, none⟩, 3, rfl, h3.lt, h3.cell 2, by decide, by unfold maxLen; omega, reads_block h2 rfl rfl h2.lt⟩
    | i + 3, hr => simp [rows3] at hr⟩
theorem pick3_any (w : World) (b0 b1 b2 b3 : Nat) (h0 : Blk w b0 3 #[.int .i64 1, .int .i64 0, .int .i64 0]) (h1 : Blk w b1 3 #[.int .i64 1, .int .i64 1, .int .i64 0]) (h2 : Blk w b2 3 #[.int .i64 0, .int .i64 0, .int .i64 1])
    (h3 : Blk w b3 63 #[.slice (some ⟨b0, 0, none⟩) 3 3, .slice (some ⟨b1, 0, none⟩) 3 3, .slice (some ⟨b2, 0, none⟩) 3 3]) :
    Calls Try.prog 35 #[.slice (some ⟨b3, 0, none⟩) 3 3] w fun e w' => ∃ V c, e = .returned (.tuple #[.slice V 2 c, .int .i64 0]) ∧ Reads w' w'.heap.size 1 V 2 (ints [1, 2]) ∧ Below w.heap.size w w' := by
  have h := pick_any rows3 _ _ w (rows3_is h0 h1 h2 h3)
  refine Calls.mono (show Calls Try.prog 35 #[.slice (some ⟨b3, 0, none⟩) 3 3] w (PickQ rows3 w) from h) ?_
  rintro e w' ⟨V, c, l, rfl, hr, hb, -, -, -, -, -, hp⟩
  obtain ⟨P, D⟩ := hp rows3_check
  obtain rfl := pick3 P D
  exact ⟨V, c, by rw [rows3_check]; rfl, hr, hb⟩

theorem reads_take {w : World} {B n k : Nat} {A : Option Addr} {l : List Nat} (h : Reads w B 1 A n (ints (natI l))) (hk : k ≤ n) : Reads w B 1 A k (ints (natI (l.take k))) := by
  have hl : l.length = n := by have := h.len; simpa [ints, natI] using this
  refine ⟨by simp [ints, natI]; omega, fun h0 => ?_⟩
  obtain ⟨ad, e, hb, hc⟩ := h.lies (by omega)
  refine ⟨ad, e, hb, fun j u hu => hc j u ?_⟩
  have hj : j < k := by have := getElem?_lt hu; simp [ints, natI] at this; omega
  simp only [ints, natI, List.getElem?_map] at hu ⊢
  rwa [List.getElem?_take_of_lt hj] at hu
set_option maxRecDepth 100000 in
set_option maxHeartbeats 1000000 in
theorem walk_GreedyAll (rows : List (List Int)) (A : Option Addr) (c : Nat) (w : World) (hr : RowsIs w w.heap.size rows A c) :
    Calls Try.prog 8 #[.slice A rows.length c] w fun e w' => e = .returned (.bool true) ∧ Below w.heap.size w w' := by
  obtain ⟨i0, hi0, hz0, hz1, hz2⟩ := info_parts int_info
  have hle := hr.le
  have hcap := hr.cap
  unfold maxLen at hcap
  have h3 := pick3_any
  have hpk := fun W (hW : Below w.heap.size w W) => pick_any rows A c W ((hr.on hW).more hW.size)
  have HR := Lib.hid hr
  have H3 := Lib.hid h3
  have HPK := Lib.hid hpk
  clear hr h3 hpk
  go_enter Try.func8, Try.ntmps8
  go_wp2_with fail
  have k0 : Blk ((((w.alloc (.cells #[.int .i64 1, .int .i64 0, .int .i64 0] 3)).alloc (.cells #[.int .i64 1, .int .i64 1, .int .i64 0] 3)).alloc (.cells #[.int .i64 0, .int .i64 0, .int .i64 1] 3)).alloc (.cells #[.slice (some ⟨w.heap.size, 0, none⟩) 3 3, .slice (some ⟨w.heap.size + 1, 0, none⟩) 3 3, .slice (some ⟨w.heap.size + 1 + 1, 0, none⟩) 3 3] 63)) w.heap.size 3 #[.int .i64 1, .int .i64 0, .int .i64 0] := (((Blk.new w _ _).alloc _).alloc _).alloc _
  have k1 : Blk ((((w.alloc (.cells #[.int .i64 1, .int .i64 0, .int .i64 0] 3)).alloc (.cells #[.int .i64 1, .int .i64 1, .int .i64 0] 3)).alloc (.cells #[.int .i64 0, .int .i64 0, .int .i64 1] 3)).alloc (.cells #[.slice (some ⟨w.heap.size, 0, none⟩) 3 3, .slice (some ⟨w.heap.size + 1, 0, none⟩) 3 3, .slice (some ⟨w.heap.size + 1 + 1, 0, none⟩) 3 3] 63)) (w.heap.size + 1) 3 #[.int .i64 1, .int .i64 1, .int .i64 0] := ((blk_at (by simp)).alloc _).alloc _
  have k2 : Blk ((((w.alloc (.cells #[.int .i64 1, .int .i64 0, .int .i64 0] 3)).alloc (.cells #[.int .i64 1, .int .i64 1, .int .i64 0] 3)).alloc (.cells #[.int .i64 0, .int .i64 0, .int .i64 1] 3)).alloc (.cells #[.slice (some ⟨w.heap.size, 0, none⟩) 3 3, .slice (some ⟨w.heap.size + 1, 0, none⟩) 3 3, .slice (some ⟨w.heap.size + 1 + 1, 0, none⟩) 3 3] 63)) (w.heap.size + 1 + 1) 3 #[.int .i64 0, .int .i64 0, .int .i64 1] := (blk_at (by simp)).alloc _
  have k3 : Blk ((((w.alloc (.cells #[.int .i64 1, .int .i64 0, .int .i64 0] 3)).alloc (.cells #[.int .i64 1, .int .i64 1, .int .i64 0] 3)).alloc (.cells #[.int .i64 0, .int .i64 0, .int .i64 1] 3)).alloc (.cells #[.slice (some ⟨w.heap.size, 0, none⟩) 3 3, .slice (some ⟨w.heap.size + 1, 0, none⟩) 3 3, .slice (some ⟨w.heap.size + 1 + 1, 0, none⟩) 3 3] 63)) (w.heap.size + 1 + 1 + 1) 63 #[.slice (some ⟨w.heap.size, 0, none⟩) 3 3, .slice (some ⟨w.heap.size + 1, 0, none⟩) 3 3, .slice (some ⟨w.heap.size + 1 + 1, 0, none⟩) 3 3] := blk_at (by simp)
  have hw4 : Below w.heap.size w ((((w.alloc (.cells #[.int .i64 1, .int .i64 0, .int .i64 0] 3)).alloc (.cells #[.int .i64 1, .int .i64 1, .int .i64 0] 3)).alloc (.cells #[.int .i64 0, .int .i64 0, .int .i64 1] 3)).alloc (.cells #[.slice (some ⟨w.heap.size, 0, none⟩) 3 3, .slice (some ⟨w.heap.size + 1, 0, none⟩) 3 3, .slice (some ⟨w.heap.size + 1 + 1, 0, none⟩) 3 3] 63)) := (by repeat (first | exact Below.refl _ _ | assumption | refine Below.drew ?_ | refine below_drewN ?_ _ | refine Below.alloc ?_ (by first | omega | (simp; omega) | simp) _ | refine Below.setCell ?_ (by first | omega | (simp; omega) | simp) _))
  have h3 := H3.out _ _ _ _ _ k0 k1 k2 k3
  generalize ((((w.alloc (.cells #[.int .i64 1, .int .i64 0, .int .i64 0] 3)).alloc (.cells #[.int .i64 1, .int .i64 1, .int .i64 0] 3)).alloc (.cells #[.int .i64 0, .int .i64 0, .int .i64 1] 3)).alloc (.cells #[.slice (some ⟨w.heap.size, 0, none⟩) 3 3, .slice (some ⟨w.heap.size + 1, 0, none⟩) 3 3, .slice (some ⟨w.heap.size + 1 + 1, 0, none⟩) 3 3] 63)) = w4 at h3 hw4 ⊢
  generalize w.heap.size + 1 + 1 + 1 = b3 at h3 ⊢
  clear k0 k1 k2 k3 H3
  refine h3.mono ?_
  clear h3
  rintro e w5 ⟨V5, c5, rfl, hr5, hb5⟩
  have hw5 := hw4.trans (hb5.mono hw4.size)
  have heq := fun (W : World) (hW : Below w5.heap.size w5 W) (b : Nat) (hb : Blk W b 3 #[.int .i64 1, .int .i64 2]) => equal_any V5 (some ⟨b, 0, none⟩) 2 c5 2 2 [1, 2] [1, 2] w5.heap.size W.heap.size W (hr5.below hW) (reads_block hb rfl rfl hb.lt) (by unfold Small; omega)
  simp only [decide_true] at heq
  have HEQ := Lib.hid heq
  have hz5 := hw5.size
  clear hb5 hr5 heq hw4
  go_wp2_with fail
  refine (HEQ.out _ ((Below.refl _ _).alloc (Nat.le_refl _) _) _ (blk_at rfl)).mono ?_
  rintro e w6 ⟨rfl, d, rfl⟩
  have hw6 : Below w.heap.size w ((w5.alloc (.cells #[.int .i64 1, .int .i64 2] 3)).drewN d) := (by repeat (first | exact Below.refl _ _ | assumption | refine Below.drew ?_ | refine below_drewN ?_ _ | refine Below.alloc ?_ (by first | omega | (simp; omega) | simp) _ | refine Below.setCell ?_ (by first | omega | (simp; omega) | simp) _))
  generalize ((w5.alloc (.cells #[.int .i64 1, .int .i64 2] 3)).drewN d) = w6 at hw6 ⊢
  clear HEQ hw5 hz5
  go_wp2_with fail
  refine (HPK.out _ hw6).mono ?_
  rintro e w7 ⟨V7, c7, l, rfl, hr7, hb7, hl7, hlc, hcm, hVc, hno, hyes⟩
  have hw7 := hw6.trans (hb7.mono hw6.size)
  clear hb7 hw6 HPK
  by_cases h0 : chkR rows = 0
  · obtain ⟨hP, hD⟩ := hyes h0
    obtain ⟨h40, hL, -⟩ := chkR_all h0
    have hsd := fun (W : World) (hW : Below w7.heap.size w7 W) (m : List Nat) (V : Option Addr) (cl : Nat) (h : Reads W W.heap.size 1 V m.length (ints (natI m))) (hi : ∀ i ∈ m, i < rows.length) (hm : m.length ≤ 1000) => said_any rows A c m V cl w.heap.size W (Nat.le_trans hw7.size hW.size) (HR.out.on (hw7.trans (hW.mono hw7.size))) h0 h hi hm
    have hil : ∀ i ∈ l, i < rows.length := fun i hi => by
      obtain ⟨k, hk⟩ := List.mem_iff_getElem?.1 hi
      have := greedy_lt hP hk
      rwa [List.length_map] at this
    have hall := greedy_all hD
    rw [List.length_map] at hall
    have hN : ∀ m, saidN (2 * rowL rows) (rows.map says) m ≤ 240 := fun m => Nat.le_trans (cntN_le _ _) (by omega)
    rw [h0]
    generalize 2 * rowL rows = N at hP hD hall hN hsd
    have HSD := Lib.hid hsd
    have HP := Lib.hid hP
    have HIL := Lib.hid hil
    have HALL := Lib.hid hall
    have HN := Lib.hid hN
    have HR7 := Lib.hid hr7
    have hz7 := hw7.size
    unfold maxLen at hcm
    clear hsd hP hD hil hall hN hr7 hno hyes h0 HR
    go_wp2
    go_loopw [7, 8, 41] (fun vo _ i wr => ∃ (k : Nat) (V : Option Addr) (co : Nat), k ≤ rows.length ∧ i = .int .i64 k ∧ vo = .slice V k co ∧ Hid (wr.ownsRow w7.heap.size 3 1 (.slice V k co) k (ints (natI (List.range k)))) ∧ Below w7.heap.size w7 wr) (fun _ _ i _ => rows.length - (intOf i).toNat)
    case atStart => exact ⟨0, none, 0, by omega, rfl, rfl, World.ownsRow_nil _ _ _ _, Below.refl _ _⟩
    case round =>
      obtain ⟨k, V, co, hk, rfl, rfl, HO, hwr⟩ := hrel
      have hwz := hwr.size
      by_cases hkn : k < rows.length
      · have hkl : (k : Int) < (rows.length : Int) := by omega
        go_wp2_with (at_builtin; refine wpList_append_own _ rfl _ _ _ rfl w7.heap.size 3 i0 _ 1 8 Try.underlying63 hi0 hz0 hz1 hz2 rfl (by decide) _ _ _ rfl (HO.out.alloc _) ⟨wr.heap.size, 0, none⟩ 1 1 [.int .i64 k] rfl rfl (cells_newZ wr 3 [.int .i64 k]) (by simp [Value.oneCell']) (by unfold maxLen; omega) (by omega) (by simp; omega) ?_; intro v' w8 hown8 hgr8 _; obtain ⟨V8, c8, rfl⟩ := own_form hown8)
        have hw8 := below_app (hwr.alloc hwz _) (HO.out.alloc _) hgr8 (by simp; omega) (Nat.le_refl _)
        go_roundw
        case rel => exact ⟨k + 1, V8, c8, by omega, by go_num, rfl, by rw [List.range_succ, natI_snoc]; exact hown8, hw8⟩
        case measure => simp [intOf]; omega
      · obtain rfl : k = rows.length := by omega
        have HRO : Hid (Reads wr wr.heap.size 1 V rows.length (ints (natI (List.range rows.length)))) := Reads.of_own HO.out
        have HRL : Hid (Reads wr w7.heap.size 1 V7 l.length (ints (natI l))) := HR7.out.below hwr
        clear HO HR7
        rename World => w8
        have hw8 := hw7.trans (hwr.mono hz7)
        have HW78 := Lib.hid hwr
        have HST : Hid (∀ k i : Nat, l[k]? = some i → saidN N (rows.map says) (l.take k) + 1 ≤ saidN N (rows.map says) (l.take (k + 1)) ∧ (∀ j : Nat, l[k + 1]? = some j → saidN N (rows.map says) (l.take (k + 1 + 1)) - saidN N (rows.map says) (l.take (k + 1)) ≤ saidN N (rows.map says) (l.take (k + 1)) - saidN N (rows.map says) (l.take k))) := fun k i h => ⟨greedy_step HP.out h, fun j h' => greedy_desc HP.out h h'⟩
        have H0 : Hid (0 < l.length → ((saidN N (rows.map says) (l.take (0 + 1)) - saidN N (rows.map says) (l.take 0) : Nat) : Int) ≤ 1048576) := fun _ => by
          have := HN.out (l.take (0 + 1))
          omega
        clear hwr HP
        go_wp2
        go_loopw [9, 10, 11, 12, 51] (fun vl _ _ _ i wr => ∃ (k : Nat) (z : Int), k ≤ l.length ∧ i = .int .i64 k ∧ vl = .int .i64 z ∧ 0 ≤ z ∧ z ≤ 1048576 ∧ Hid (k < l.length → ((saidN N (rows.map says) (l.take (k + 1)) - saidN N (rows.map says) (l.take k) : Nat) : Int) ≤ z) ∧ Below w8.heap.size w8 wr) (fun _ _ _ _ i _ => l.length - (intOf i).toNat)
        case atStart => exact ⟨0, 1048576, by omega, rfl, rfl, by omega, by omega, H0, Below.refl _ _⟩
        case round =>
          clear H0
          obtain ⟨k, z, hk, rfl, rfl, hz0', hz1', HZ, hwr⟩ := hrel
          have hwz := hwr.size
          have h8z := hw8.size
          have hww := hw8.trans (hwr.mono h8z)
          by_cases hkn : k < l.length
          · obtain ⟨lad, y, rfl, hlab, hy, hcy⟩ := (HRL.out.below (hwr.mono HW78.out.size)).int_at hkn
            obtain ⟨i, hli, rfl⟩ := natI_at hy
            have hir := HIL.out i (List.mem_of_getElem? hli)
            obtain ⟨hs1, hs2⟩ := HST.out k i hli
            have hzz := HZ.out hkn
            have hb1 := HN.out (l.take (k + 1))
            have hc1 := fun (W : World) (hW : Below wr.heap.size wr W) => HSD.out W (HW78.out.trans ((hwr.trans (hW.mono hwz)).mono HW78.out.size)) (l.take (k + 1)) (some lad) c7 (by
              have := reads_take (k := k + 1) (((HRL.out.below (hwr.mono HW78.out.size)).below (hW.mono (Nat.le_trans HW78.out.size hwz))).more (B' := W.heap.size) (Nat.le_trans (Nat.le_trans HW78.out.size hwz) hW.size)) (by omega)
              rwa [show (l.take (k + 1)).length = k + 1 by rw [List.length_take]; omega]) (fun i hi => HIL.out i (List.mem_of_mem_take hi)) (by rw [List.length_take]; omega)
            have hc0 := fun (W : World) (hW : Below wr.heap.size wr W) => HSD.out W (HW78.out.trans ((hwr.trans (hW.mono hwz)).mono HW78.out.size)) (l.take k) (some lad) c7 (by
              have := reads_take (k := k) (((HRL.out.below (hwr.mono HW78.out.size)).below (hW.mono (Nat.le_trans HW78.out.size hwz))).more (B' := W.heap.size) (Nat.le_trans (Nat.le_trans HW78.out.size hwz) hW.size)) (by omega)
              rwa [show (l.take k).length = k by rw [List.length_take]; omega]) (fun i hi => HIL.out i (List.mem_of_mem_take hi)) (by rw [List.length_take]; omega)
            rw [show (l.take (k + 1)).length = k + 1 by rw [List.length_take]; omega] at hc1
            rw [show (l.take k).length = k by rw [List.length_take]; omega] at hc0
            have hs2' : k + 1 < l.length → saidN N (rows.map says) (l.take (k + 1 + 1)) - saidN N (rows.map says) (l.take (k + 1)) ≤ saidN N (rows.map says) (l.take (k + 1)) - saidN N (rows.map says) (l.take k) := fun h => hs2 _ (List.getElem?_eq_getElem h)
            have HS2 := Lib.hid hs2'
            generalize saidN N (rows.map says) (l.take k) = a0 at hc0 hs1 hzz HS2
            generalize hA1 : saidN N (rows.map says) (l.take (k + 1)) = a1 at hc1 hs1 hzz HS2 hb1
            have HA1 := Lib.hid hA1
            clear hA1
            have HC1 := Lib.hid hc1
            have HC0 := Lib.hid hc0
            have q1 : ((i : Int) < 0) = False := by simp
            have q2 : ((rows.length : Int) ≤ (i : Int)) = False := by simp; omega
            have q3 : ((a1 : Int) - (a0 : Int) < 1) = False := by simp; omega
            have q4 : (z < (a1 : Int) - (a0 : Int)) = False := by simp; omega
            have hwk : IntKind.i64.wrap ((k : Int) + 1) = (k : Int) + 1 := wrap_i64z _ (by omega) (by omega)
            have hk0 : (0 : Int) ≤ (k : Int) + 1 := by omega
            have hk1 : (k : Int) + 1 ≤ (c7 : Int) := by omega
            have hk2 : (k : Int) ≤ (c7 : Int) := by omega
            have hk3 : ((k : Int) + 1).toNat = k + 1 := by omega
            clear hs2 hs2' hli hy hc1 hc0 HZ
            go_wp2_with fail
            refine wp_region_q (fun W => Below wr.heap.size wr W) (by kernel_rfl) (by kernel_rfl) (Below.refl _ _).drew ?_
            repeat
              (first | ((with_reducible apply QW.free rfl); · (intro W hW; go_simp; first | rfl | (go_at_call 37; (with_reducible refine (HC1.out W hW).mono ?_); exact fun e w' h => ⟨h.1, hW.trans (h.2.mono hW.size)⟩) | (go_at_call 37; (with_reducible refine (HC0.out W hW).mono ?_); exact fun e w' h => ⟨h.1, hW.trans (h.2.mono hW.size)⟩))) | ((with_reducible apply QW.skip rfl); · (first | exact ⟨_, _, rfl, rfl, .inl rfl⟩ | exact ⟨_, _, rfl, rfl, .inr rfl⟩)) | ((with_reducible apply QW.take rfl); (· exact ⟨_, rfl, rfl⟩); (· (intro W hW; go_simp; first | rfl | (go_at_call 37; (with_reducible refine (HC1.out W hW).mono ?_); exact fun e w' h => ⟨h.1, hW.trans (h.2.mono hW.size)⟩) | (go_at_call 37; (with_reducible refine (HC0.out W hW).mono ?_); exact fun e w' h => ⟨h.1, hW.trans (h.2.mono hW.size)⟩))))); (try simp only [Act.put, List.setIfInBounds_toArray, List.set_cons_zero, List.set_cons_succ])
            refine QW.nil ?_
            intro w9 h9
            have hw9 := hwr.trans (h9.mono hwz)
            clear h9 hwr hww
            go_wp2
            go_roundw
            case rel => exact ⟨k + 1, (a1 : Int) - (a0 : Int), by omega, by go_num, by go_num, by omega, by omega, fun h => by have := HS2.out h; rw [HA1.out]; omega, hw9⟩
            case measure => simp [intOf]; omega
          · have hkl : k = l.length := by omega
            subst hkl
            have he1 := fun (W : World) (hW : Below wr.heap.size wr W) => HSD.out W (HW78.out.trans ((hwr.trans (hW.mono hwz)).mono HW78.out.size)) l V7 c7 (((HRL.out.below (hwr.mono HW78.out.size)).below (hW.mono (Nat.le_trans HW78.out.size hwz))).more (Nat.le_trans (Nat.le_trans HW78.out.size hwz) hW.size)) HIL.out (by omega)
            have he2 := fun (W : World) (hW : Below wr.heap.size wr W) => HSD.out W (HW78.out.trans ((hwr.trans (hW.mono hwz)).mono HW78.out.size)) (List.range rows.length) V co (by
              rw [List.length_range]
              exact ((HRO.out.below hwr).below (hW.mono hwz)).more (Nat.le_trans hwz hW.size)) (fun i hi => List.mem_range.1 hi) (by rw [List.length_range]; omega)
            rw [List.length_range, ← HALL.out] at he2
            generalize saidN N (rows.map says) l = x at he1 he2
            have HE1 := Lib.hid he1
            have HE2 := Lib.hid he2
            have HWW := Lib.hid hww
            have hxx : ((x : Int) == (x : Int)) = true := by rw [beq_iff_eq]
            clear he1 he2 hwr hw8 hww HRL HRO HSD HST HZ hkn
            go_wp2_with fail
            refine (HE1.out _ (Below.refl _ _)).mono ?_
            rintro e w9 ⟨rfl, hb9⟩
            go_wp2_with fail
            refine (HE2.out _ hb9).mono ?_
            rintro e wA ⟨rfl, hbA⟩
            have hwA := hb9.trans (hbA.mono hb9.size)
            go_wp2
            go_ret
            exact ⟨rfl, HWW.out.trans (hwA.mono HWW.out.size)⟩
  · obtain rfl := hno h0
    have h0' : (chkR rows != 0) = true := by rw [bne_iff_ne]; exact h0
    generalize chkR rows = x at h0' ⊢
    clear h0 hno hyes hr7
    go_wp2
    go_ret
    exact ⟨rfl, hw7⟩
end Go.Proofs.Ytphfckihdhmhpaa
