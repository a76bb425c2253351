/- chaffref.Same and SameGrammar: are two expressions, two grammars the same? -/
import Derived.Test.YtndhbdbfjkmloaaDoorBuE
import Derived.Test.YtndhbdbfjkmloaaDoorSet4
namespace Go.Proofs.YtndhbdbfjkmloaaDoor
open Go.RowKit

/-- is it so? -/
noncomputable def isB (p : Prop) : Bool := @decide p (Classical.propDecidable p)
theorem isB_iff {p : Prop} : isB p = true ↔ p := by unfold isB; exact @decide_eq_true_iff p (Classical.propDecidable p)
theorem isB_yes {p : Prop} (h : p) : isB p = true := isB_iff.2 h
theorem isB_no {p : Prop} (h : ¬ p) : isB p = false := by
  cases hb : isB p with
  | false => rfl
  | true => exact absurd (isB_iff.1 hb) h
theorem bytes_eq {u v : ByteArray} (h : u.data.toList = v.data.toList) : u = v := by
  obtain ⟨⟨u⟩⟩ := u
  obtain ⟨⟨v⟩⟩ := v
  simp at h
  rw [h]
def SameX (e : Ex) : Prop := ∀ (f : Ex) (cs cs' : List Value) (w : World), ExIs w w.heap.size e cs → ExIs w w.heap.size f cs' → Calls Tryd.prog 13 #[.agg cs.toArray, .agg cs'.toArray] w fun r w' => r = .returned (.bool (isB (e = f))) ∧ Below w.heap.size w w'

set_option maxRecDepth 100000 in
theorem equalX_any {k a b c d k0 a0 b0 c0 d0 : Int} {t t0 : ByteArray} {ks ks' : List Ex} (ih : ∀ e ∈ ks, SameX e) {A A' : Option Addr} {cp cp' : Nat} {w : World} (h : ExIs w w.heap.size (.mk k a b c d t ks) (exCells k a b c d t A ks.length cp)) (h' : ExIs w w.heap.size (.mk k0 a0 b0 c0 d0 t0 ks') (exCells k0 a0 b0 c0 d0 t0 A' ks'.length cp')) :
    Calls Tryd.prog 29 #[.slice A ks.length cp, .slice A' ks'.length cp', .func (.func 13) #[] #[]] w fun r w' => r = .returned (.bool (isB (ks = ks'))) ∧ Below w.heap.size w w' := by
  have hl := h.len.2.2
  have hmx := hl.2.1
  have hmn := hl.1
  unfold maxLen at hmx
  have IH := Lib.hid ih
  have H1 := Lib.hid h
  have H2 := Lib.hid h'
  clear ih h h' hl
  by_cases hnn : ks.length = ks'.length
  · have HNN := Lib.hid hnn
    obtain ⟨n, hn⟩ : ∃ n, ks.length = n := ⟨_, rfl⟩
    have hn' : ks'.length = n := by omega
    rw [hn'] at H2 ⊢
    rw [hn] at hmn H1 ⊢
    clear hnn
    go_enter Tryd.func29, Tryd.ntmps29
    go_wp2
    go_loopw [7, 8, 9, 17] (fun _ _ _ i wr => ∃ j : Nat, j ≤ n ∧ i = .int .i64 j ∧ Hid (ks.take j = ks'.take j) ∧ Below w.heap.size w wr) (fun _ _ _ i _ => n - (intOf i).toNat)
    case atStart => exact ⟨0, by omega, rfl, rfl, Below.refl _ _⟩
    case round =>
      obtain ⟨j, hj, rfl, HR, hwr⟩ := hrel
      have hwz := hwr.size
      by_cases hjn : j < n
      · obtain ⟨ad, k1, a1, b1, c1, d1, t1, ks1, A1, cp1, rfl, hab, hej, hx, hS⟩ := H1.out.kid (j := j) (by omega)
        obtain ⟨ad', k2, a2, b2, c2, d2, t2, ks2, A2, cp2, rfl, hab', hej', hx', hS'⟩ := H2.out.kid (j := j) (by omega)
        have hk := fun (q : Addr) (hq : q.block = (ad.add (j * 7)).block) => hwr.cell (p := q) (by rw [hq, add_block]; omega)
        have y0 := (hk _ rfl).trans hS.c0
        have y1 := (hk ⟨_, _, none⟩ rfl).trans hS.c1
        have y2 := (hk ⟨_, _, none⟩ rfl).trans hS.c2
        have y3 := (hk ⟨_, _, none⟩ rfl).trans hS.c3
        have y4 := (hk ⟨_, _, none⟩ rfl).trans hS.c4
        have y5 := (hk ⟨_, _, none⟩ rfl).trans hS.c5
        have y6 := (hk ⟨_, _, none⟩ rfl).trans hS.c6
        have hk' := fun (q : Addr) (hq : q.block = (ad'.add (j * 7)).block) => hwr.cell (p := q) (by rw [hq, add_block]; omega)
        have x0 := (hk' _ rfl).trans hS'.c0
        have x1 := (hk' ⟨_, _, none⟩ rfl).trans hS'.c1
        have x2 := (hk' ⟨_, _, none⟩ rfl).trans hS'.c2
        have x3 := (hk' ⟨_, _, none⟩ rfl).trans hS'.c3
        have x4 := (hk' ⟨_, _, none⟩ rfl).trans hS'.c4
        have x5 := (hk' ⟨_, _, none⟩ rfl).trans hS'.c5
        have x6 := (hk' ⟨_, _, none⟩ rfl).trans hS'.c6
        have hcall : ∀ W : World, Below w.heap.size w W → Calls Tryd.prog 13 #[.agg #[.int .i64 k1, .int .u64 a1, .int .u64 b1, .int .u64 c1, .int .u64 d1, .string t1, .slice A1 ks1.length cp1], .agg #[.int .i64 k2, .int .u64 a2, .int .u64 b2, .int .u64 c2, .int .u64 d2, .string t2, .slice A2 ks2.length cp2]] W fun r w' => r = .returned (.bool (isB (Ex.mk k1 a1 b1 c1 d1 t1 ks1 = .mk k2 a2 b2 c2 d2 t2 ks2))) ∧ Below W.heap.size W w' := fun W hW =>
          IH.out _ (List.mem_of_getElem? hej) _ _ _ W (hx.grow hW) (hx'.grow hW)
        have HCall := Lib.hid hcall
        have HEJ := Lib.hid hej
        have HEJ' := Lib.hid hej'
        have hba : (ad.add (j * 7)).block < wr.heap.size := by rw [add_block]; omega
        have hba' : (ad'.add (j * 7)).block < wr.heap.size := by rw [add_block]; omega
        clear hcall hk hk' hS hS' hx hx' hej hej'
        by_cases heq : Ex.mk k1 a1 b1 c1 d1 t1 ks1 = .mk k2 a2 b2 c2 d2 t2 ks2
        · have HEQ := Lib.hid heq
          have hxx := isB_yes heq
          rw [hxx] at HCall
          clear heq hxx
          go_wp2_with fail
          refine (HCall.out _ (by repeat (first | exact Below.refl _ _ | assumption | refine Below.drew ?_ | refine below_drewN ?_ _ | refine Below.alloc ?_ (by first | omega | (simp; omega) | simp) _ | refine Below.setCell ?_ (by first | omega | (simp; omega) | simp) _))).mono ?_
          rintro e w2 ⟨rfl, hb2⟩
          have hw2 : Below w.heap.size w w2 := Below.trans (by repeat (first | exact Below.refl _ _ | assumption | refine Below.drew ?_ | refine below_drewN ?_ _ | refine Below.alloc ?_ (by first | omega | (simp; omega) | simp) _ | refine Below.setCell ?_ (by first | omega | (simp; omega) | simp) _)) (hb2.mono (by first | omega | (simp; omega) | simp))
          clear hb2
          go_wp2
          go_roundw
          case rel => exact ⟨j + 1, by omega, by go_num, by show _ = _; rw [take_succ_of HEJ.out, take_succ_of HEJ'.out, HR.out, HEQ.out], hw2⟩
          case measure => simp [intOf]; omega
        · have hne : ks ≠ ks' := fun e => heq (by have h1 := HEJ.out; rw [e, HEJ'.out] at h1; injection h1 with h1; exact h1.symm)
          have hxx := isB_no heq
          have hxy := isB_no hne
          rw [hxx] at HCall
          have HXY := Lib.hid hxy
          clear heq hxx hxy hne
          go_wp2_with fail
          refine (HCall.out _ (by repeat (first | exact Below.refl _ _ | assumption | refine Below.drew ?_ | refine below_drewN ?_ _ | refine Below.alloc ?_ (by first | omega | (simp; omega) | simp) _ | refine Below.setCell ?_ (by first | omega | (simp; omega) | simp) _))).mono ?_
          rintro e w2 ⟨rfl, hb2⟩
          have hw2 : Below w.heap.size w w2 := Below.trans (by repeat (first | exact Below.refl _ _ | assumption | refine Below.drew ?_ | refine below_drewN ?_ _ | refine Below.alloc ?_ (by first | omega | (simp; omega) | simp) _ | refine Below.setCell ?_ (by first | omega | (simp; omega) | simp) _)) (hb2.mono (by first | omega | (simp; omega) | simp))
          clear hb2
          go_wp2
          go_ret
          exact ⟨ret_bool HXY.out.symm, hw2⟩
      · obtain rfl : j = n := by omega
        have hxy : isB (ks = ks') = true := isB_yes (by have := HR.out; rwa [List.take_of_length_le (by omega), List.take_of_length_le (by omega)] at this)
        have HXY := Lib.hid hxy
        clear hxy
        go_wp2
        go_ret
        exact ⟨ret_bool HXY.out.symm, hwr⟩
  · have hxy : isB (ks = ks') = false := isB_no fun e => hnn (by rw [e])
    have hb : ((ks.length : Int) != (ks'.length : Int)) = true := by rw [bne_iff_ne]; omega
    rw [hxy]
    clear hxy hnn
    go_enter Tryd.func29, Tryd.ntmps29
    go_wp2
    go_ret
    exact ⟨rfl, Below.refl _ _⟩

set_option maxRecDepth 100000 in
set_option maxHeartbeats 4000000 in
theorem samex_any (e : Ex) : SameX e := by
  refine Ex.ind (P := SameX) ?_ e
  intro k a b c d t ks ih f cs cs' w he hf
  cases f with
  | mk k0 a0 b0 c0 d0 t0 ks0 =>
  obtain ⟨_, A, cp, rfl, -⟩ := he.shape
  obtain ⟨_, A0, cp0, rfl, -⟩ := hf.shape
  have hcall := fun (W : World) (hW : Below w.heap.size w W) => equalX_any (w := W) ih (he.grow hW) (hf.grow hW)
  have HCall := Lib.hid hcall
  clear hcall ih he hf
  have hq := fun w => run_same_set w a b c d a0 b0 c0 d0
  have ht := toList_eq_iff t t0
  unfold exCells
  by_cases h1 : k = k0
  rotate_left
  · have hk : (k == k0) = false := by rw [beq_eq_false_iff_ne]; exact h1
    rw [isB_no fun e => by injection e with e1; exact h1 e1]
    clear h1
    go_enter Tryd.func13, Tryd.ntmps13
    go_wp2
    go_ret
    exact ⟨rfl, (by repeat (first | exact Below.refl _ _ | assumption | refine Below.drew ?_ | refine below_drewN ?_ _ | refine Below.alloc ?_ (by first | omega | (simp; omega) | simp) _ | refine Below.setCell ?_ (by first | omega | (simp; omega) | simp) _))⟩
  subst h1
  by_cases h2 : a = a0 ∧ b = b0 ∧ c = c0 ∧ d = d0
  rotate_left
  · have hz : (a == a0 && (b == b0 && (c == c0 && d == d0))) = false := by
      rw [Bool.eq_false_iff]
      intro e
      simp at e
      exact h2 e
    rw [hz] at hq
    rw [isB_no fun e => by injection e with e1 e2 e3 e4 e5; exact h2 ⟨e2, e3, e4, e5⟩]
    clear h2 hz
    go_enter Tryd.func13, Tryd.ntmps13
    go_wp2
    go_ret
    exact ⟨rfl, (by repeat (first | exact Below.refl _ _ | assumption | refine Below.drew ?_ | refine below_drewN ?_ _ | refine Below.alloc ?_ (by first | omega | (simp; omega) | simp) _ | refine Below.setCell ?_ (by first | omega | (simp; omega) | simp) _))⟩
  obtain ⟨rfl, rfl, rfl, rfl⟩ := h2
  have hz : (a == a && (b == b && (c == c && d == d))) = true := by simp
  rw [hz] at hq
  by_cases h3 : t.data.toList = t0.data.toList
  rotate_left
  · rw [decide_eq_false h3] at ht
    rw [isB_no fun e => by injection e with e1 e2 e3 e4 e5 e6; exact h3 (by rw [e6])]
    clear h3 hz
    go_enter Tryd.func13, Tryd.ntmps13
    go_wp2
    go_ret
    exact ⟨rfl, (by repeat (first | exact Below.refl _ _ | assumption | refine Below.drew ?_ | refine below_drewN ?_ _ | refine Below.alloc ?_ (by first | omega | (simp; omega) | simp) _ | refine Below.setCell ?_ (by first | omega | (simp; omega) | simp) _))⟩
  rw [decide_eq_true h3] at ht
  have h4 := bytes_eq h3
  have hx : isB (Ex.mk k a b c d t ks = .mk k a b c d t0 ks0) = isB (ks = ks0) := by
    subst h4
    by_cases h5 : ks = ks0
    · rw [isB_yes h5, isB_yes (by rw [h5])]
    · rw [isB_no h5, isB_no fun e => by injection e with _ _ _ _ _ _ e7; exact h5 e7]
  rw [hx]
  generalize isB (ks = ks0) = x at HCall
  clear h3 hz h4 hx
  go_enter Tryd.func13, Tryd.ntmps13
  go_wp2_with fail
  refine (HCall.out _ (by repeat (first | exact Below.refl _ _ | assumption | refine Below.drew ?_ | refine below_drewN ?_ _ | refine Below.alloc ?_ (by first | omega | (simp; omega) | simp) _ | refine Below.setCell ?_ (by first | omega | (simp; omega) | simp) _))).mono ?_
  rintro e w2 ⟨rfl, hb2⟩
  have hw2 : Below w.heap.size w w2 := Below.trans (by repeat (first | exact Below.refl _ _ | assumption | refine Below.drew ?_ | refine below_drewN ?_ _ | refine Below.alloc ?_ (by first | omega | (simp; omega) | simp) _ | refine Below.setCell ?_ (by first | omega | (simp; omega) | simp) _)) (hb2.mono (by first | omega | (simp; omega) | simp)); have hzw2 := hw2.size; clear hb2
  go_wp2
  go_ret
  exact ⟨rfl, hw2⟩
end Go.Proofs.YtndhbdbfjkmloaaDoor
