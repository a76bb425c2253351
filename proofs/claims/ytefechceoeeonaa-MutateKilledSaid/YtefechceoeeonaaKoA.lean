/- mutate.Kill, plain: where a mutant is killed first; the closure that asks it. -/
import Derived.Test.YtefechceoeeonaaXD
import Derived.Test.YtefechceoeeonaaLsG
import Derived.Test.YtefechceoeeonaaQSpl
namespace Go.Proofs.Ytefechceoeeonaa
open Go.RowKit

/-- does a text tell a mutant from the grammar? -/
noncomputable def kilB (g m : List Rl) (s : ByteArray) : Bool := accG m s != accG g s
/-- where something holds first -/
def idxP (p : ByteArray → Bool) : List ByteArray → Nat → Int
  | [], _ => -1
  | x :: l, j => if p x then (j : Int) else idxP p l (j + 1)
theorem idxP_lo (p : ByteArray → Bool) : ∀ (l : List ByteArray) (j : Nat), idxP p l j = -1 ∧ (∀ x ∈ l, p x = false) ∨ ∃ k x, l[k]? = some x ∧ p x = true ∧ idxP p l j = ((j + k : Nat) : Int) ∧ ∀ i y, i < k → l[i]? = some y → p y = false
  | [], _ => .inl ⟨rfl, fun x h => by cases h⟩
  | x :: l, j => by
    unfold idxP
    cases hx : p x with
    | true => exact .inr ⟨0, x, rfl, hx, by simp, fun i y h => by omega⟩
    | false =>
      simp only [Bool.false_eq_true, if_false]
      rcases idxP_lo p l (j + 1) with ⟨h1, h2⟩ | ⟨k, y, h1, h2, h3, h4⟩
      · exact .inl ⟨h1, fun z hz => by rcases List.mem_cons.1 hz with rfl | hz; exact hx; exact h2 z hz⟩
      · refine .inr ⟨k + 1, y, h1, h2, by rw [h3]; congr 1; omega, fun i z hi hz => ?_⟩
        cases i with
        | zero => simp at hz; subst hz; exact hx
        | succ i => exact h4 i z (by omega) hz
theorem idxP_app (p : ByteArray → Bool) : ∀ (l r : List ByteArray) (j : Nat), (0 ≤ idxP p l j → idxP p (l ++ r) j = idxP p l j) ∧ (idxP p l j < 0 → idxP p (l ++ r) j = -1 ∨ ((j + l.length : Nat) : Int) ≤ idxP p (l ++ r) j)
  | [], r, j => by
    refine ⟨fun h => by simp [idxP] at h, fun _ => ?_⟩
    rw [List.nil_append]
    rcases idxP_lo p r j with ⟨h, _⟩ | ⟨k, x, _, _, h, _⟩
    · exact .inl h
    · exact .inr (by rw [h]; simp; omega)
  | x :: l, r, j => by
    obtain ⟨h1, h2⟩ := idxP_app p l r (j + 1)
    rw [List.cons_append]
    simp only [idxP]
    cases hx : p x with
    | true => exact ⟨fun _ => by simp, fun h => by simp at h; omega⟩
    | false =>
      simp only [Bool.false_eq_true, if_false]
      refine ⟨h1, fun h => ?_⟩
      rcases h2 h with h | h
      · exact .inl h
      · refine .inr ?_
        rw [List.length_cons, show j + (l.length + 1) = j + 1 + l.length by omega]
        exact h
theorem idxS_at (s : ByteArray) : ∀ (l : List ByteArray) (j : Nat), s ∈ l → ∃ k, idxS s l j = ((j + k : Nat) : Int) ∧ l[k]? = some s
  | [], _, h => by cases h
  | x :: l, j, h => by
    unfold idxS
    by_cases hx : s.data.toList = x.data.toList
    · exact ⟨0, by rw [if_pos hx]; simp, by rw [data_inj' hx]; rfl⟩
    · rw [if_neg hx]
      obtain ⟨k, h1, h2⟩ := idxS_at s l (j + 1) (by rcases List.mem_cons.1 h with rfl | h; exact absurd rfl hx; exact h)
      exact ⟨k + 1, by rw [h1]; congr 1; omega, h2⟩

set_option maxRecDepth 100000 in
set_option maxHeartbeats 4000000 in
theorem kil1_any {m : List Rl} {T : List ByteArray} {pw : ByteArray → Bool} {Am At Aw : Option Addr} {cm ct cw mb wb tb : Nat} {row : Nat → List Value} {w : World} (hm : GrIs w w.heap.size m Am cm row) (hwm : ∀ r ∈ m, WfE r.2)
    (bm : Blk w mb 24 #[.slice Am m.length cm]) (bw : Blk w wb 92 #[.slice Aw T.length cw]) (bt : Blk w tb 61 #[.slice At T.length ct])
    (hT : Reads w w.heap.size 1 At T.length (T.map Value.string)) (hW : Reads w w.heap.size 1 Aw T.length (T.map fun s => .bool (pw s))) (hn : T.length ≤ 40) (s : ByteArray) (hs : s ∈ T) :
    Calls Try.prog 68 #[.string s, .pointer (some ⟨mb, 0, none⟩), .pointer (some ⟨wb, 0, none⟩), .pointer (some ⟨tb, 0, none⟩)] w fun e w' => e = .returned (.bool (accG m s != pw s)) ∧ Below w.heap.size w w' := by
  have hac := fun W (hW : Below w.heap.size w W) => acc_any (hm.grow hW) hwm s
  have hix := fun W (hW : Below w.heap.size w W) => indexS_any At T.length ct T w.heap.size s W (hT.below hW) (by omega)
  obtain ⟨k, hk1, hk2⟩ := idxS_at s T 0 hs
  rw [Nat.zero_add] at hk1
  rw [hk1] at hix
  have hkl := getElem?_lt hk2
  obtain ⟨aw, ew, hwb, hcw⟩ := hW.lies (by omega)
  subst ew
  have hcell := hcw k (.bool (pw s)) (by rw [List.getElem?_map, hk2]; rfl)
  generalize accG m s = x at hac ⊢
  generalize pw s = y at hcell ⊢
  generalize lookG m s = z at hac
  have hwk : (aw.add k).block < w.heap.size := by rw [add_block]; exact hwb
  have q1 : (k : Int) < (T.length : Int) := by omega
  have HA := Lib.hid hac
  have HI := Lib.hid hix
  have HCW := Lib.hid hcell
  clear hac hix hm hwm hT hW hcw hk1 hk2 hcell
  have g0 : w.cell? ⟨mb, 0, none⟩ = some (.slice Am m.length cm) := bm.cell 0
  go_enter Try.func68, Try.ntmps68
  go_wp2_with fail
  refine (HA.out _ (Below.refl _ _)).mono ?_
  rintro e w1 ⟨rfl, hb1⟩
  have g1 : w1.cell? ⟨wb, 0, none⟩ = some (.slice (some aw) T.length cw) := (bw.below hb1 bw.lt).cell 0
  have g2 : w1.cell? ⟨tb, 0, none⟩ = some (.slice At T.length ct) := (bt.below hb1 bt.lt).cell 0
  have g3 : w1.cell? (aw.add k) = some (.bool y) := (hb1.cell hwk).trans HCW.out
  go_upto_region 2 with fail
  refine wp_region_l (fun W => ∃ d, W = w1.drewN d) (fun _ => false) (by kernel_rfl) ?_
  have hC : ∃ d, w1.drew = w1.drewN d := ⟨1, rfl⟩
  generalize w1.drew = wd at hC ⊢
  apply L.rd (i := 0) rfl (by kernel_rfl) hC rfl
  · intro W hW
    skip
    unfold readW
    go_simp
    first | rfl | exact ⟨rfl, rfl⟩
  first | simp only [Act.put, List.setIfInBounds_toArray, List.set_cons_succ, List.set_cons_zero] | skip
  apply L.rd (i := 1) rfl (by kernel_rfl) hC rfl
  · intro W hW
    obtain ⟨d, rfl⟩ := hW; have n0 : (w1.drewN d).cell? ⟨wb, 0, none⟩ = some (.slice (some aw) T.length cw) := g1
    unfold readW
    go_simp
    first | rfl | exact ⟨rfl, rfl⟩
  first | simp only [Act.put, List.setIfInBounds_toArray, List.set_cons_succ, List.set_cons_zero] | skip
  apply L.rd (i := 2) rfl (by kernel_rfl) hC rfl
  · intro W hW
    obtain ⟨d, rfl⟩ := hW; have n0 : (w1.drewN d).cell? ⟨tb, 0, none⟩ = some (.slice At T.length ct) := g2
    unfold readW
    go_simp
    first | rfl | exact ⟨rfl, rfl⟩
  first | simp only [Act.put, List.setIfInBounds_toArray, List.set_cons_succ, List.set_cons_zero] | skip
  apply L.rd (i := 3) rfl (by kernel_rfl) hC rfl
  · intro W hW
    skip
    unfold readW
    go_simp
    first | rfl | exact ⟨rfl, rfl⟩
  first | simp only [Act.put, List.setIfInBounds_toArray, List.set_cons_succ, List.set_cons_zero] | skip
  apply L.one (i := 4) rfl (by kernel_rfl) rfl
  unfold stepT
  go_simp
  go_at_call 69
  obtain ⟨d, rfl⟩ := hC
  refine (HI.out _ (below_drewN hb1 d)).mono ?_
  rintro e wn ⟨rfl, d', rfl⟩
  have hC : ∃ d2, (w1.drewN d).drewN d' = w1.drewN d2 := ⟨d + d', by first | rfl | simp [World.drewN, Nat.add_assoc] | rw [World.drewN_drewN]⟩
  refine ⟨_, rfl, hC, ?_⟩
  first | simp only [Act.put, List.setIfInBounds_toArray, List.set_cons_succ, List.set_cons_zero] | skip
  apply L.rd (i := 5) rfl (by kernel_rfl) hC rfl
  · intro W hW
    skip
    unfold readW
    go_simp
    first | rfl | exact ⟨rfl, rfl⟩
  first | simp only [Act.put, List.setIfInBounds_toArray, List.set_cons_succ, List.set_cons_zero] | skip
  apply L.rd (i := 6) rfl (by kernel_rfl) hC rfl
  · intro W hW
    obtain ⟨d, rfl⟩ := hW; have n0 : (w1.drewN d).cell? (aw.add k) = some (.bool y) := g3
    unfold readW
    go_simp
    first | rfl | exact ⟨rfl, rfl⟩
  first | simp only [Act.put, List.setIfInBounds_toArray, List.set_cons_succ, List.set_cons_zero] | skip
  apply L.rd (i := 7) rfl (by kernel_rfl) hC rfl
  · intro W hW
    skip
    unfold readW
    go_simp
    first | rfl | exact ⟨rfl, rfl⟩
  first | simp only [Act.put, List.setIfInBounds_toArray, List.set_cons_succ, List.set_cons_zero] | skip
  apply L.rd (i := 8) rfl (by kernel_rfl) hC rfl
  · intro W hW
    skip
    unfold readW
    go_simp
    first | rfl | exact ⟨rfl, rfl⟩
  first | simp only [Act.put, List.setIfInBounds_toArray, List.set_cons_succ, List.set_cons_zero] | skip
  refine L.done (by kernel_rfl) ?_
  have hw2 : Below w.heap.size w ((w1.drewN d).drewN d') := by obtain ⟨d2, h2⟩ := hC; rw [h2]; exact below_drewN hb1 d2
  generalize ((w1.drewN d).drewN d') = w2 at hw2 ⊢
  go_wp2
  go_ret
  exact ⟨rfl, hw2⟩

/-- what slices.IndexFunc leaves where Kill asks it -/
def KilIQ (g m : List Rl) (T : List ByteArray) (w : World) (e : Ending) (w' : World) : Prop := e = .returned (.int .i64 (idxP (kilB g m) T 0)) ∧ Below w.heap.size w w'
set_option maxRecDepth 100000 in
set_option maxHeartbeats 4000000 in
theorem kilI_any {g m : List Rl} {T : List ByteArray} {Am At Aw : Option Addr} {cm ct cw mb wb tb : Nat} {row : Nat → List Value} {w : World} (hm : GrIs w w.heap.size m Am cm row) (hwm : ∀ r ∈ m, WfE r.2)
    (bm : Blk w mb 24 #[.slice Am m.length cm]) (bw : Blk w wb 92 #[.slice Aw T.length cw]) (bt : Blk w tb 61 #[.slice At T.length ct])
    (hT : Reads w w.heap.size 1 At T.length (T.map Value.string)) (hW : Reads w w.heap.size 1 Aw T.length (T.map fun s => .bool (accG g s))) (hn : T.length ≤ 40) :
    Calls Try.prog 67 #[.slice At T.length ct, .func (.func 68) #[] #[.pointer (some ⟨mb, 0, none⟩), .pointer (some ⟨wb, 0, none⟩), .pointer (some ⟨tb, 0, none⟩)]] w (KilIQ g m T w) := by
  have hc := fun (W : World) (hb : Below w.heap.size w W) (s : ByteArray) (hs : s ∈ T) => kil1_any (pw := accG g) (hm.grow hb) hwm (bm.below hb bm.lt) (bw.below hb bw.lt) (bt.below hb bt.lt) ((hT.below hb).more hb.size) ((hW.below hb).more hb.size) hn s hs
  have HC : Hid (∀ (W : World), Below w.heap.size w W → ∀ s ∈ T, Calls Try.prog 68 #[.string s, .pointer (some ⟨mb, 0, none⟩), .pointer (some ⟨wb, 0, none⟩), .pointer (some ⟨tb, 0, none⟩)] W fun e w' => e = .returned (.bool (kilB g m s)) ∧ Below W.heap.size W w') := hc
  have HQ : Hid (∀ y w', y = idxP (kilB g m) T 0 → Below w.heap.size w w' → KilIQ g m T w (.returned (.int .i64 y)) w') := fun y w' h hb => ⟨by rw [h], hb⟩
  have HX : Hid (idxP (kilB g m) T 0 = idxP (kilB g m) (T.drop 0) 0) := by exact rfl
  generalize KilIQ g m T w = Q at HQ ⊢
  generalize kilB g m = p at HC HQ HX
  generalize idxP p T 0 = y at HQ HX
  clear hc hm hwm bm bw bt hW
  go_enter Try.func67, Try.ntmps67
  go_wp2
  go_loopw [5, 8] (fun _ i wr => ∃ j : Nat, j ≤ T.length ∧ i = .int .i64 j ∧ Hid (y = idxP p (T.drop j) j) ∧ Below w.heap.size w wr) (fun _ i _ => T.length - (intOf i).toNat)
  case atStart => exact ⟨0, by omega, rfl, HX, Below.refl _ _⟩
  case round =>
    obtain ⟨j, hj, rfl, HR, hwr⟩ := hrel
    have hwz := hwr.size
    by_cases hjn : j < T.length
    · obtain ⟨ad, x, rfl, hab, hg, e0⟩ := reads_str hT hjn
      have e1 : wr.cell? (ad.add j) = some (.string x) := (hwr.cell (by rw [add_block]; exact hab)).trans e0
      have hcx := HC.out wr hwr x (List.mem_of_getElem? hg)
      have HD := Lib.hid (drop_of hg)
      have HCX := Lib.hid hcx
      clear hg hcx e0
      cases hx : p x with
      | true =>
        have HE : Hid (y = (j : Int)) := HR.out.trans (by rw [HD.out, idxP, if_pos hx])
        rw [hx] at HCX
        clear hx
        go_wp2_with fail
        refine HCX.out.mono ?_
        rintro e w2 ⟨rfl, hb2⟩
        have hw2 := hwr.trans (hb2.mono hwz)
        go_wp2
        exact HQ.out _ _ HE.out.symm hw2
      | false =>
        have HE : Hid (y = idxP p (T.drop (j + 1)) (j + 1)) := HR.out.trans (by rw [HD.out, idxP, if_neg (by rw [hx]; decide)])
        rw [hx] at HCX
        clear hx
        go_wp2_with fail
        refine HCX.out.mono ?_
        rintro e w2 ⟨rfl, hb2⟩
        have hw2 := hwr.trans (hb2.mono hwz)
        clear hb2
        go_wp2
        go_roundw
        case rel => exact ⟨j + 1, by omega, by go_num, HE, hw2⟩
        case measure => simp [intOf]; omega
    · obtain rfl : j = T.length := by omega
      have HE : Hid (y = -1) := HR.out.trans (by rw [List.drop_length, idxP])
      go_wp2
      exact HQ.out _ _ HE.out.symm hwr
end Go.Proofs.Ytefechceoeeonaa
