/- chaffref.Same and SameGrammar: are two expressions, two grammars the same? -/
import Derived.Test.YtefechceoeeonaaGF
import Derived.Test.YtefechceoeeonaaGB
import Derived.Test.YtefechceoeeonaaQSpl
import Derived.Test.YtefechceoeeonaaPkV
import Derived.Test.YtefechceoeeonaaCA
import Derived.Test.YtefechceoeeonaaRB
namespace Go.Proofs.Ytefechceoeeonaa
open Go.RowKit

/-- is it so? -/
noncomputable def isB (p : Prop) : Bool := @decide p (Classical.propDecidable p)
theorem isB_iff {p : Prop} : isB p = true ↔ p := by unfold isB; exact @decide_eq_true_iff p (Classical.propDecidable p)
theorem isB_yes {p : Prop} (h : p) : isB p = true := isB_iff.2 h
theorem isB_no {p : Prop} (h : ¬ p) : isB p = false := by
  cases hb : isB p with
  | false => rfl
  | true => exact absurd (isB_iff.1 hb) h
theorem bytes_eq {u v : ByteArray} (h : u.data.toList = v.data.toList) : u = v := by
  obtain ⟨⟨u⟩⟩ := u
  obtain ⟨⟨v⟩⟩ := v
  simp at h
  rw [h]
def SameX (e : Ex) : Prop := ∀ (f : Ex) (cs cs' : List Value) (w : World), ExIs w w.heap.size e cs → ExIs w w.heap.size f cs' → Calls Try.prog 25 #[.agg cs.toArray, .agg cs'.toArray] w fun r w' => r = .returned (.bool (isB (e = f))) ∧ Below w.heap.size w w'

set_option maxRecDepth 100000 in
theorem equalX_any {k a b c d k0 a0 b0 c0 d0 : Int} {t t0 : ByteArray} {ks ks' : List Ex} (ih : ∀ e ∈ ks, SameX e) {A A' : Option Addr} {cp cp' : Nat} {w : World} (h : ExIs w w.heap.size (.mk k a b c d t ks) (exCells k a b c d t A ks.length cp)) (h' : ExIs w w.heap.size (.mk k0 a0 b0 c0 d0 t0 ks') (exCells k0 a0 b0 c0 d0 t0 A' ks'.length cp')) :
    Calls Try.prog 59 #[.slice A ks.length cp, .slice A' ks'.length cp', .func (.func 25) #[] #[]] w fun r w' => r = .returned (.bool (isB (ks = ks'))) ∧ Below w.heap.size w w' := by
  have hl := h.len.2.2
  have hmx := hl.2.1
  have hmn := hl.1
  unfold maxLen at hmx
  have IH := Lib.hid ih
  have H1 := Lib.hid h
  have H2 := Lib.hid h'
  clear ih h h' hl
  by_cases hnn : ks.length = ks'.length
  · have HNN := Lib.hid hnn
    obtain ⟨n, hn⟩ : ∃ n, ks.length = n := ⟨_, rfl⟩
    have hn' : ks'.length = n := by omega
    rw [hn'] at H2 ⊢
    rw [hn] at hmn H1 ⊢
    clear hnn
    go_enter Try.func59, Try.ntmps59
    go_wp2
    go_loopw [7, 8, 9, 17] (fun _ _ _ i wr => ∃ j : Nat, j ≤ n ∧ i = .int .i64 j ∧ Hid (ks.take j = ks'.take j) ∧ Below w.heap.size w wr) (fun _ _ _ i _ => n - (intOf i).toNat)
    case atStart => exact ⟨0, by omega, rfl, rfl, Below.refl _ _⟩
    case round =>
      obtain ⟨j, hj, rfl, HR, hwr⟩ := hrel
      have hwz := hwr.size
      by_cases hjn : j < n
      · obtain ⟨ad, k1, a1, b1, c1, d1, t1, ks1, A1, cp1, rfl, hab, hej, hx, hS⟩ := H1.out.kid (j := j) (by omega)
        obtain ⟨ad', k2, a2, b2, c2, d2, t2, ks2, A2, cp2, rfl, hab', hej', hx', hS'⟩ := H2.out.kid (j := j) (by omega)
        have hk := fun (q : Addr) (hq : q.block = (ad.add (j * 7)).block) => hwr.cell (p := q) (by rw [hq, add_block]; omega)
        have y0 := (hk _ rfl).trans hS.c0
        have y1 := (hk ⟨_, _, none⟩ rfl).trans hS.c1
        have y2 := (hk ⟨_, _, none⟩ rfl).trans hS.c2
        have y3 := (hk ⟨_, _, none⟩ rfl).trans hS.c3
        have y4 := (hk ⟨_, _, none⟩ rfl).trans hS.c4
        have y5 := (hk ⟨_, _, none⟩ rfl).trans hS.c5
        have y6 := (hk ⟨_, _, none⟩ rfl).trans hS.c6
        have hk' := fun (q : Addr) (hq : q.block = (ad'.add (j * 7)).block) => hwr.cell (p := q) (by rw [hq, add_block]; omega)
        have x0 := (hk' _ rfl).trans hS'.c0
        have x1 := (hk' ⟨_, _, none⟩ rfl).trans hS'.c1
        have x2 := (hk' ⟨_, _, none⟩ rfl).trans hS'.c2
        have x3 := (hk' ⟨_, _, none⟩ rfl).trans hS'.c3
        have x4 := (hk' ⟨_, _, none⟩ rfl).trans hS'.c4
        have x5 := (hk' ⟨_, _, none⟩ rfl).trans hS'.c5
        have x6 := (hk' ⟨_, _, none⟩ rfl).trans hS'.c6
        have hcall : ∀ W : World, Below w.heap.size w W → Calls Try.prog 25 #[.agg #[.int .i64 k1, .int .u64 a1, .int .u64 b1, .int .u64 c1, .int .u64 d1, .string t1, .slice A1 ks1.length cp1], .agg #[.int .i64 k2, .int .u64 a2, .int .u64 b2, .int .u64 c2, .int .u64 d2, .string t2, .slice A2 ks2.length cp2]] W fun r w' => r = .returned (.bool (isB (Ex.mk k1 a1 b1 c1 d1 t1 ks1 = .mk k2 a2 b2 c2 d2 t2 ks2))) ∧ Below W.heap.size W w' := fun W hW =>
          IH.out _ (List.mem_of_getElem? hej) _ _ _ W (hx.grow hW) (hx'.grow hW)
        have HCall := Lib.hid hcall
        have HEJ := Lib.hid hej
        have HEJ' := Lib.hid hej'
        have hba : (ad.add (j * 7)).block < wr.heap.size := by rw [add_block]; omega
        have hba' : (ad'.add (j * 7)).block < wr.heap.size := by rw [add_block]; omega
        clear hcall hk hk' hS hS' hx hx' hej hej'
        by_cases heq : Ex.mk k1 a1 b1 c1 d1 t1 ks1 = .mk k2 a2 b2 c2 d2 t2 ks2
        · have HEQ := Lib.hid heq
          have hxx := isB_yes heq
          rw [hxx] at HCall
          clear heq hxx
          go_wp2_with fail
          refine (HCall.out _ (by repeat (first | exact Below.refl _ _ | assumption | refine Below.drew ?_ | refine below_drewN ?_ _ | refine Below.alloc ?_ (by first | omega | (simp; omega) | simp) _ | refine Below.setCell ?_ (by first | omega | (simp; omega) | simp) _))).mono ?_
          rintro e w2 ⟨rfl, hb2⟩
          have hw2 : Below w.heap.size w w2 := Below.trans (by repeat (first | exact Below.refl _ _ | assumption | refine Below.drew ?_ | refine below_drewN ?_ _ | refine Below.alloc ?_ (by first | omega | (simp; omega) | simp) _ | refine Below.setCell ?_ (by first | omega | (simp; omega) | simp) _)) (hb2.mono (by first | omega | (simp; omega) | simp))
          clear hb2
          go_wp2
          go_roundw
          case rel => exact ⟨j + 1, by omega, by go_num, by show _ = _; rw [take_succ_of HEJ.out, take_succ_of HEJ'.out, HR.out, HEQ.out], hw2⟩
          case measure => simp [intOf]; omega
        · have hne : ks ≠ ks' := fun e => heq (by have h1 := HEJ.out; rw [e, HEJ'.out] at h1; injection h1 with h1; exact h1.symm)
          have hxx := isB_no heq
          have hxy := isB_no hne
          rw [hxx] at HCall
          have HXY := Lib.hid hxy
          clear heq hxx hxy hne
          go_wp2_with fail
          refine (HCall.out _ (by repeat (first | exact Below.refl _ _ | assumption | refine Below.drew ?_ | refine below_drewN ?_ _ | refine Below.alloc ?_ (by first | omega | (simp; omega) | simp) _ | refine Below.setCell ?_ (by first | omega | (simp; omega) | simp) _))).mono ?_
          rintro e w2 ⟨rfl, hb2⟩
          have hw2 : Below w.heap.size w w2 := Below.trans (by repeat (first | exact Below.refl _ _ | assumption | refine Below.drew ?_ | refine below_drewN ?_ _ | refine Below.alloc ?_ (by first | omega | (simp; omega) | simp) _ | refine Below.setCell ?_ (by first | omega | (simp; omega) | simp) _)) (hb2.mono (by first | omega | (simp; omega) | simp))
          clear hb2
          go_wp2
          go_ret
          exact ⟨ret_bool HXY.out.symm, hw2⟩
      · obtain rfl : j = n := by omega
        have hxy : isB (ks = ks') = true := isB_yes (by have := HR.out; rwa [List.take_of_length_le (by omega), List.take_of_length_le (by omega)] at this)
        have HXY := Lib.hid hxy
        clear hxy
        go_wp2
        go_ret
        exact ⟨ret_bool HXY.out.symm, hwr⟩
  · have hxy : isB (ks = ks') = false := isB_no fun e => hnn (by rw [e])
    have hb : ((ks.length : Int) != (ks'.length : Int)) = true := by rw [bne_iff_ne]; omega
    rw [hxy]
    clear hxy hnn
    go_enter Try.func59, Try.ntmps59
    go_wp2
    go_ret
    exact ⟨rfl, Below.refl _ _⟩

set_option maxRecDepth 100000 in
set_option maxHeartbeats 4000000 in
theorem samex_any (e : Ex) : SameX e := by
  refine Ex.ind (P := SameX) ?_ e
  intro k a b c d t ks ih f cs cs' w he hf
  cases f with
  | mk k0 a0 b0 c0 d0 t0 ks0 =>
  obtain ⟨_, A, cp, rfl, -⟩ := he.shape
  obtain ⟨_, A0, cp0, rfl, -⟩ := hf.shape
  have hcall := fun (W : World) (hW : Below w.heap.size w W) => equalX_any (w := W) ih (he.grow hW) (hf.grow hW)
  have HCall := Lib.hid hcall
  clear hcall ih he hf
  have hq := fun w => run_same_set w a b c d a0 b0 c0 d0
  have ht := toList_eq_iff t t0
  unfold exCells
  by_cases h1 : k = k0
  rotate_left
  · have hk : (k == k0) = false := by rw [beq_eq_false_iff_ne]; exact h1
    rw [isB_no fun e => by injection e with e1; exact h1 e1]
    clear h1
    go_enter Try.func25, Try.ntmps25
    go_wp2
    go_ret
    exact ⟨rfl, (by repeat (first | exact Below.refl _ _ | assumption | refine Below.drew ?_ | refine below_drewN ?_ _ | refine Below.alloc ?_ (by first | omega | (simp; omega) | simp) _ | refine Below.setCell ?_ (by first | omega | (simp; omega) | simp) _))⟩
  subst h1
  by_cases h2 : a = a0 ∧ b = b0 ∧ c = c0 ∧ d = d0
  rotate_left
  · have hz : (a == a0 && (b == b0 && (c == c0 && d == d0))) = false := by
      rw [Bool.eq_false_iff]
      intro e
      simp at e
      exact h2 e
    rw [hz] at hq
    rw [isB_no fun e => by injection e with e1 e2 e3 e4 e5; exact h2 ⟨e2, e3, e4, e5⟩]
    clear h2 hz
    go_enter Try.func25, Try.ntmps25
    go_wp2
    go_ret
    exact ⟨rfl, (by repeat (first | exact Below.refl _ _ | assumption | refine Below.drew ?_ | refine below_drewN ?_ _ | refine Below.alloc ?_ (by first | omega | (simp; omega) | simp) _ | refine Below.setCell ?_ (by first | omega | (simp; omega) | simp) _))⟩
  obtain ⟨rfl, rfl, rfl, rfl⟩ := h2
  have hz : (a == a && (b == b && (c == c && d == d))) = true := by simp
  rw [hz] at hq
  by_cases h3 : t.data.toList = t0.data.toList
  rotate_left
  · rw [decide_eq_false h3] at ht
    rw [isB_no fun e => by injection e with e1 e2 e3 e4 e5 e6; exact h3 (by rw [e6])]
    clear h3 hz
    go_enter Try.func25, Try.ntmps25
    go_wp2
    go_ret
    exact ⟨rfl, (by repeat (first | exact Below.refl _ _ | assumption | refine Below.drew ?_ | refine below_drewN ?_ _ | refine Below.alloc ?_ (by first | omega | (simp; omega) | simp) _ | refine Below.setCell ?_ (by first | omega | (simp; omega) | simp) _))⟩
  rw [decide_eq_true h3] at ht
  have h4 := bytes_eq h3
  have hx : isB (Ex.mk k a b c d t ks = .mk k a b c d t0 ks0) = isB (ks = ks0) := by
    subst h4
    by_cases h5 : ks = ks0
    · rw [isB_yes h5, isB_yes (by rw [h5])]
    · rw [isB_no h5, isB_no fun e => by injection e with _ _ _ _ _ _ e7; exact h5 e7]
  rw [hx]
  generalize isB (ks = ks0) = x at HCall
  clear h3 hz h4 hx
  go_enter Try.func25, Try.ntmps25
  go_wp2_with fail
  refine (HCall.out _ (by repeat (first | exact Below.refl _ _ | assumption | refine Below.drew ?_ | refine below_drewN ?_ _ | refine Below.alloc ?_ (by first | omega | (simp; omega) | simp) _ | refine Below.setCell ?_ (by first | omega | (simp; omega) | simp) _))).mono ?_
  rintro e w2 ⟨rfl, hb2⟩
  have hw2 : Below w.heap.size w w2 := Below.trans (by repeat (first | exact Below.refl _ _ | assumption | refine Below.drew ?_ | refine below_drewN ?_ _ | refine Below.alloc ?_ (by first | omega | (simp; omega) | simp) _ | refine Below.setCell ?_ (by first | omega | (simp; omega) | simp) _)) (hb2.mono (by first | omega | (simp; omega) | simp)); have hzw2 := hw2.size; clear hb2
  go_wp2
  go_ret
  exact ⟨rfl, hw2⟩
end Go.Proofs.Ytefechceoeeonaa

/- chaffref.SameGrammar. -/
namespace Go.Proofs.Ytefechceoeeonaa
open Go.RowKit

set_option maxRecDepth 100000 in
set_option maxHeartbeats 4000000 in
theorem samer_any {nm nm' : ByteArray} {e f : Ex} {k a b c d k0 a0 b0 c0 d0 : Int} {t t0 : ByteArray} {A A0 : Option Addr} {n cp n0 cp0 : Nat} {w : World} (he : ExIs w w.heap.size e (exCells k a b c d t A n cp)) (hf : ExIs w w.heap.size f (exCells k0 a0 b0 c0 d0 t0 A0 n0 cp0)) :
    Calls Try.prog 46 #[.agg #[.string nm, .int .i64 k, .int .u64 a, .int .u64 b, .int .u64 c, .int .u64 d, .string t, .slice A n cp], .agg #[.string nm', .int .i64 k0, .int .u64 a0, .int .u64 b0, .int .u64 c0, .int .u64 d0, .string t0, .slice A0 n0 cp0]] w fun r w' => r = .returned (.bool (isB ((nm, e) = (nm', f)))) ∧ Below w.heap.size w w' := by
  have hcall := fun (W : World) (hW : Below w.heap.size w W) => samex_any e f _ _ W (he.grow hW) (hf.grow hW)
  unfold exCells at hcall
  have HCall := Lib.hid hcall
  have ht := toList_eq_iff nm nm'
  clear hcall he hf
  by_cases h3 : nm.data.toList = nm'.data.toList
  · have h4 := bytes_eq h3
    have hx : isB ((nm, e) = (nm', f)) = isB (e = f) := by
      subst h4
      by_cases h5 : e = f
      · rw [isB_yes h5, isB_yes (by rw [h5])]
      · rw [isB_no h5, isB_no fun x => by injection x with _ x; exact h5 x]
    rw [hx]
    rw [decide_eq_true h3] at ht
    generalize isB (e = f) = x at HCall
    clear h3 h4 hx
    go_enter Try.func46, Try.ntmps46
    go_wp2_with fail
    refine (HCall.out _ (by repeat (first | exact Below.refl _ _ | assumption | refine Below.drew ?_ | refine below_drewN ?_ _ | refine Below.alloc ?_ (by first | omega | (simp; omega) | simp) _ | refine Below.setCell ?_ (by first | omega | (simp; omega) | simp) _))).mono ?_
    rintro e w2 ⟨rfl, hb2⟩
    have hw2 : Below w.heap.size w w2 := Below.trans (by repeat (first | exact Below.refl _ _ | assumption | refine Below.drew ?_ | refine below_drewN ?_ _ | refine Below.alloc ?_ (by first | omega | (simp; omega) | simp) _ | refine Below.setCell ?_ (by first | omega | (simp; omega) | simp) _)) (hb2.mono (by first | omega | (simp; omega) | simp)); have hzw2 := hw2.size; clear hb2
    go_wp2
    go_ret
    exact ⟨rfl, hw2⟩
  · rw [decide_eq_false h3] at ht
    rw [isB_no fun x => by injection x with x1 x2; exact h3 (by rw [x1])]
    clear h3
    go_enter Try.func46, Try.ntmps46
    go_wp2
    go_ret
    exact ⟨rfl, (by repeat (first | exact Below.refl _ _ | assumption | refine Below.drew ?_ | refine below_drewN ?_ _ | refine Below.alloc ?_ (by first | omega | (simp; omega) | simp) _ | refine Below.setCell ?_ (by first | omega | (simp; omega) | simp) _))⟩

set_option maxRecDepth 100000 in
set_option maxHeartbeats 4000000 in
theorem equalR_any {g h : List Rl} {A A' : Option Addr} {cp cp' : Nat} {row row' : Nat → List Value} {w : World} (hg : GrIs w w.heap.size g A cp row) (hh : GrIs w w.heap.size h A' cp' row') :
    Calls Try.prog 45 #[.slice A g.length cp, .slice A' h.length cp', .func (.func 46) #[] #[]] w fun r w' => r = .returned (.bool (isB (g = h))) ∧ Below w.heap.size w w' := by
  have hmx := hg.cap
  have hmn := hg.le
  unfold maxLen at hmx
  have H1 := Lib.hid hg
  have H2 := Lib.hid hh
  clear hg hh
  by_cases hnn : g.length = h.length
  · obtain ⟨n, hn⟩ : ∃ n, g.length = n := ⟨_, rfl⟩
    have hn' : h.length = n := by omega
    rw [hn'] at ⊢
    rw [hn] at hmn ⊢
    clear hnn
    go_enter Try.func45, Try.ntmps45
    go_wp2
    go_loopw [7, 8, 9, 17] (fun _ _ _ i wr => ∃ j : Nat, j ≤ n ∧ i = .int .i64 j ∧ Hid (g.take j = h.take j) ∧ Below w.heap.size w wr) (fun _ _ _ i _ => n - (intOf i).toNat)
    case atStart => exact ⟨0, by omega, rfl, rfl, Below.refl _ _⟩
    case round =>
      obtain ⟨j, hj, rfl, HR, hwr⟩ := hrel
      have hwz := hwr.size
      by_cases hjn : j < n
      · obtain ⟨ad, nm1, k1, a1, b1, c1, d1, t1, ks1, A1, cp1, rfl, hab, hej, -, hx, hS⟩ := H1.out.rule (j := j) (by omega)
        obtain ⟨ad', nm2, k2, a2, b2, c2, d2, t2, ks2, A2, cp2, rfl, hab', hej', -, hx', hS'⟩ := H2.out.rule (j := j) (by omega)
        have hk := fun (q : Addr) (hq : q.block = (ad.add (j * 8)).block) => hwr.cell (p := q) (by rw [hq, add_block]; omega)
        have y0 := (hk _ rfl).trans hS.c0
        have y1 := (hk ⟨_, _, none⟩ rfl).trans hS.c1
        have y2 := (hk ⟨_, _, none⟩ rfl).trans hS.c2
        have y3 := (hk ⟨_, _, none⟩ rfl).trans hS.c3
        have y4 := (hk ⟨_, _, none⟩ rfl).trans hS.c4
        have y5 := (hk ⟨_, _, none⟩ rfl).trans hS.c5
        have y6 := (hk ⟨_, _, none⟩ rfl).trans hS.c6
        have y7 := (hk ⟨_, _, none⟩ rfl).trans hS.c7
        have hk' := fun (q : Addr) (hq : q.block = (ad'.add (j * 8)).block) => hwr.cell (p := q) (by rw [hq, add_block]; omega)
        have x0 := (hk' _ rfl).trans hS'.c0
        have x1 := (hk' ⟨_, _, none⟩ rfl).trans hS'.c1
        have x2 := (hk' ⟨_, _, none⟩ rfl).trans hS'.c2
        have x3 := (hk' ⟨_, _, none⟩ rfl).trans hS'.c3
        have x4 := (hk' ⟨_, _, none⟩ rfl).trans hS'.c4
        have x5 := (hk' ⟨_, _, none⟩ rfl).trans hS'.c5
        have x6 := (hk' ⟨_, _, none⟩ rfl).trans hS'.c6
        have x7 := (hk' ⟨_, _, none⟩ rfl).trans hS'.c7
        have hcall : ∀ W : World, Below w.heap.size w W → Calls Try.prog 46 #[.agg #[.string nm1, .int .i64 k1, .int .u64 a1, .int .u64 b1, .int .u64 c1, .int .u64 d1, .string t1, .slice A1 ks1.length cp1], .agg #[.string nm2, .int .i64 k2, .int .u64 a2, .int .u64 b2, .int .u64 c2, .int .u64 d2, .string t2, .slice A2 ks2.length cp2]] W fun r w' => r = .returned (.bool (isB ((nm1, Ex.mk k1 a1 b1 c1 d1 t1 ks1) = (nm2, .mk k2 a2 b2 c2 d2 t2 ks2)))) ∧ Below W.heap.size W w' := fun W hW =>
          samer_any (hx.grow hW) (hx'.grow hW)
        have HCall := Lib.hid hcall
        have HEJ := Lib.hid hej
        have HEJ' := Lib.hid hej'
        have hba : (ad.add (j * 8)).block < wr.heap.size := by rw [add_block]; omega
        have hba' : (ad'.add (j * 8)).block < wr.heap.size := by rw [add_block]; omega
        clear hcall hk hk' hS hS' hx hx' hej hej'
        by_cases heq : (nm1, Ex.mk k1 a1 b1 c1 d1 t1 ks1) = (nm2, .mk k2 a2 b2 c2 d2 t2 ks2)
        · have HEQ := Lib.hid heq
          have hxx := isB_yes heq
          rw [hxx] at HCall
          clear heq hxx
          go_wp2_with fail
          refine (HCall.out _ (by repeat (first | exact Below.refl _ _ | assumption | refine Below.drew ?_ | refine below_drewN ?_ _ | refine Below.alloc ?_ (by first | omega | (simp; omega) | simp) _ | refine Below.setCell ?_ (by first | omega | (simp; omega) | simp) _))).mono ?_
          rintro e w2 ⟨rfl, hb2⟩
          have hw2 : Below w.heap.size w w2 := Below.trans (by repeat (first | exact Below.refl _ _ | assumption | refine Below.drew ?_ | refine below_drewN ?_ _ | refine Below.alloc ?_ (by first | omega | (simp; omega) | simp) _ | refine Below.setCell ?_ (by first | omega | (simp; omega) | simp) _)) (hb2.mono (by first | omega | (simp; omega) | simp))
          clear hb2
          go_wp2
          go_roundw
          case rel => exact ⟨j + 1, by omega, by go_num, by show _ = _; rw [take_succ_of HEJ.out, take_succ_of HEJ'.out, HR.out, HEQ.out], hw2⟩
          case measure => simp [intOf]; omega
        · have hne : g ≠ h := fun e => heq (by have h1 := HEJ.out; rw [e, HEJ'.out] at h1; injection h1 with h1; exact h1.symm)
          have hxx := isB_no heq
          have hxy := isB_no hne
          rw [hxx] at HCall
          have HXY := Lib.hid hxy
          clear heq hxx hxy hne
          go_wp2_with fail
          refine (HCall.out _ (by repeat (first | exact Below.refl _ _ | assumption | refine Below.drew ?_ | refine below_drewN ?_ _ | refine Below.alloc ?_ (by first | omega | (simp; omega) | simp) _ | refine Below.setCell ?_ (by first | omega | (simp; omega) | simp) _))).mono ?_
          rintro e w2 ⟨rfl, hb2⟩
          have hw2 : Below w.heap.size w w2 := Below.trans (by repeat (first | exact Below.refl _ _ | assumption | refine Below.drew ?_ | refine below_drewN ?_ _ | refine Below.alloc ?_ (by first | omega | (simp; omega) | simp) _ | refine Below.setCell ?_ (by first | omega | (simp; omega) | simp) _)) (hb2.mono (by first | omega | (simp; omega) | simp))
          clear hb2
          go_wp2
          go_ret
          exact ⟨ret_bool HXY.out.symm, hw2⟩
      · obtain rfl : j = n := by omega
        have hxy : isB (g = h) = true := isB_yes (by have := HR.out; rwa [List.take_of_length_le (by omega), List.take_of_length_le (by omega)] at this)
        have HXY := Lib.hid hxy
        clear hxy
        go_wp2
        go_ret
        exact ⟨ret_bool HXY.out.symm, hwr⟩
  · have hxy : isB (g = h) = false := isB_no fun e => hnn (by rw [e])
    have hb : ((g.length : Int) != (h.length : Int)) = true := by rw [bne_iff_ne]; omega
    rw [hxy]
    clear hxy hnn
    go_enter Try.func45, Try.ntmps45
    go_wp2
    go_ret
    exact ⟨rfl, Below.refl _ _⟩

set_option maxRecDepth 100000 in
theorem sameg_any {g h : List Rl} {A A' : Option Addr} {cp cp' : Nat} {row row' : Nat → List Value} {w : World} (hg : GrIs w w.heap.size g A cp row) (hh : GrIs w w.heap.size h A' cp' row') :
    Calls Try.prog 13 #[.agg #[.slice A g.length cp], .agg #[.slice A' h.length cp']] w fun r w' => r = .returned (.bool (isB (g = h))) ∧ Below w.heap.size w w' := by
  have hcall := fun (W : World) (hW : Below w.heap.size w W) => equalR_any (w := W) (hg.grow hW) (hh.grow hW)
  have HCall := Lib.hid hcall
  clear hcall hg hh
  generalize isB (g = h) = x at HCall
  go_enter Try.func13, Try.ntmps13
  go_wp2_with fail
  refine (HCall.out _ (by repeat (first | exact Below.refl _ _ | assumption | refine Below.drew ?_ | refine below_drewN ?_ _ | refine Below.alloc ?_ (by first | omega | (simp; omega) | simp) _ | refine Below.setCell ?_ (by first | omega | (simp; omega) | simp) _))).mono ?_
  rintro e w2 ⟨rfl, hb2⟩
  have hw2 : Below w.heap.size w w2 := Below.trans (by repeat (first | exact Below.refl _ _ | assumption | refine Below.drew ?_ | refine below_drewN ?_ _ | refine Below.alloc ?_ (by first | omega | (simp; omega) | simp) _ | refine Below.setCell ?_ (by first | omega | (simp; omega) | simp) _)) (hb2.mono (by first | omega | (simp; omega) | simp)); have hzw2 := hw2.size; clear hb2
  go_wp2
  go_ret
  exact ⟨rfl, hw2⟩
end Go.Proofs.Ytefechceoeeonaa

/- A region that draws its order, as in QSpl, with operations that stand behind '&&' or '||': where the guard is decided. -/
namespace Go.Proofs.Ytefechceoeeonaa

section
variable {P : Program} {ops : Array Oper} {md : Region.Mode} {C : World → Prop} {late : Nat → Bool} {Q : Exit → Act → World → Prop}
/-- a read that is wanted is taken first -/
theorem L.rdg {f i : Nat} {o : Oper} {listed : Array Bool} {a : Act} {w : World} (hi : ops.toList[i]? = some o) (hb : (Region.noSelect ops && (Region.ready md ops listed).contains i && Region.free md ops listed i && lateB md ops late i) = true) (hC : C w) (hw : Region.wanted o (yielded ops a.tmps) = true) {v : Value} (hy : ∀ W, C W → readW P o a W v)
    (h : wpAnyL2 P md ops C late Q f (listed.setIfInBounds i true) (a.put o.dst v) w) : wpAnyL2 P md ops C late Q (f + 1) listed a w := by
  rw [Array.getElem?_toList] at hi
  simp only [Bool.and_eq_true] at hb
  exact firstL (late_spec hb.2) hi (Region.noSelect_spec hb.1.1.1) f listed a w hC (Region.free_spec hi hb.1.2) (by simpa using hb.1.1.2) (.inl ⟨hw, hy⟩) h
/-- what is not wanted is left out -/
theorem L.skip {f i : Nat} {o : Oper} {listed : Array Bool} {a : Act} {w : World} (hi : ops.toList[i]? = some o) (hb : (Region.noSelect ops && (Region.ready md ops listed).contains i && Region.free md ops listed i && lateB md ops late i) = true) (hC : C w) (hw : Region.wanted o (yielded ops a.tmps) = false)
    (h : wpAnyL2 P md ops C late Q f (listed.setIfInBounds i true) (a.put o.dst undef) w) : wpAnyL2 P md ops C late Q (f + 1) listed a w := by
  rw [Array.getElem?_toList] at hi
  simp only [Bool.and_eq_true] at hb
  exact firstL (late_spec hb.2) hi (Region.noSelect_spec hb.1.1.1) f listed a w hC (Region.free_spec hi hb.1.2) (by simpa using hb.1.1.2) (.inr ⟨hw, rfl⟩) h
/-- one alone may come up, and is wanted -/
theorem L.oneg {f i : Nat} {o : Oper} {listed : Array Bool} {a : Act} {w : World} (hi : ops.toList[i]? = some o) (hb : decide (Region.ready md ops listed = [i]) = true) (hw : Region.wanted o (yielded ops a.tmps) = true)
    (h : stepT P o a w (fun a' w' => (late i = false → C w') ∧ wpAnyL2 P md ops C late Q f (listed.setIfInBounds i true) a' w')) : wpAnyL2 P md ops C late Q (f + 1) listed a w := by
  rw [Array.getElem?_toList] at hi
  have hb := of_decide_eq_true hb
  refine ⟨fun h => (by rw [hb] at h; cases h), fun j hj => ?_⟩
  rw [hb] at hj
  obtain rfl : j = i := by simpa using hj
  unfold goesI
  simp only [hi]
  rw [if_pos hw]
  exact h
end
end Go.Proofs.Ytefechceoeeonaa

/- chaffkeep's Within, small and whole. -/
namespace Go.Proofs.Ytefechceoeeonaa
open Go.RowKit

/-- what Within answers -/
def wiN (k : Int) (n : Nat) : Nat := ((k % 18446744073709551616) % n).toNat
theorem wiN_lt (k : Int) {n : Nat} (h : 0 < n) : wiN k n < n := by
  unfold wiN
  have := Int.emod_lt_of_pos (k % 18446744073709551616) (show (0 : Int) < n by omega)
  omega
set_option maxRecDepth 100000 in
theorem within_any (k : Int) (n : Nat) (h1 : 0 < n) (h2 : n < 9223372036854775807) (w : World) : Calls Try.prog 27 #[.int .i64 k, .int .i64 n] w fun e w' => e = .returned (.int .i64 (wiN k n)) ∧ Below w.heap.size w w' := by
  have hlt := wiN_lt k h1
  have hw1 : IntKind.u64.wrap k = k % 18446744073709551616 := by rw [IntKind.wrap_u64]
  have hw2 : IntKind.u64.wrap (n : Int) = (n : Int) := by rw [IntKind.wrap_u64]; omega
  have hk0 : 0 ≤ k % 18446744073709551616 := Int.emod_nonneg _ (by omega)
  have hr : (k % 18446744073709551616).tmod (n : Int) = (wiN k n : Int) := by
    rw [Int.tmod_eq_emod_of_nonneg hk0]
    unfold wiN
    have := Int.emod_nonneg (k % 18446744073709551616) (show (n : Int) ≠ 0 by omega)
    omega
  generalize wiN k n = j at hlt hr ⊢
  generalize k % 18446744073709551616 = y at hw1 hk0 hr
  have hn0 : ((n : Int) == 0) = false := by rw [beq_eq_false_iff_ne]; omega
  have hn1 : ¬ ((n : Int) = 0) := by omega
  have hw3 : IntKind.i64.wrap (j : Int) = (j : Int) := wrap_i64 _ (by omega) (by omega)
  have hw4 : IntKind.u64.wrap (j : Int) = (j : Int) := by rw [IntKind.wrap_u64]; omega
  go_enter Try.func27, Try.ntmps27
  go_wp2
  go_ret
  exact ⟨by simp_all, (by repeat (first | exact Below.refl _ _ | assumption | refine Below.drew ?_ | refine below_drewN ?_ _ | refine Below.alloc ?_ (by first | omega | (simp; omega) | simp) _ | refine Below.setCell ?_ (by first | omega | (simp; omega) | simp) _))⟩
theorem slice_to (s : ByteArray) (k : IntKind) (r : Nat) (j : Int) (hj : j = r) (h2 : r ≤ s.size) (w : World) :
    (Instr.slice 9 (.string s) none (some (.int k j)) none).run Try.prog w = .ok (.string (s.extract 0 r)) w := by
  subst hj
  have hu := Try.underlying9
  simp [Instr.slice, run_underlying hu, Instr.sliceBounds, go_sem, h2]
/-- at most three bytes of an alphabet -/
def smA (a : ByteArray) : ByteArray := a.extract 0 (min a.size 3)
theorem smA_size (a : ByteArray) : (smA a).size ≤ 3 := by simp [smA]; omega
end Go.Proofs.Ytefechceoeeonaa

/- slices.EqualFunc of grammars that are the same; the model's Within. -/
namespace Go.Proofs.Ytefechceoeeonaa
open Go.RowKit

/-- grammars in a row that can be read -/
structure GrsB (w : World) (ms : List Mt) (V : Option Addr) : Prop where
  at' : ∀ j, j < ms.length → ∃ ad m, V = some ad ∧ ad.block < w.heap.size ∧ ms[j]? = some m ∧ w.cell? (ad.add j) = some (.slice m.A m.g.length m.cp)
  gr : ∀ m ∈ ms, GrIs w w.heap.size m.g m.A m.cp m.row

set_option maxRecDepth 100000 in
set_option maxHeartbeats 4000000 in
theorem equalG_yes {ms ms' : List Mt} {V V' : Option Addr} {c c' : Nat} {w : World} (h1 : GrsB w ms V) (h2 : GrsB w ms' V') (he : ms.map Mt.g = ms'.map Mt.g) (hlen : ms.length ≤ 1000000) :
    Calls Try.prog 26 #[.slice V ms.length c, .slice V' ms'.length c', .func (.func 13) #[] #[]] w fun r w' => r = .returned (.bool true) ∧ Below w.heap.size w w' := by
  have hll := congrArg List.length he
  simp only [List.length_map] at hll
  have H1 := Lib.hid h1
  have H2 := Lib.hid h2
  have HE := Lib.hid he
  clear h1 h2 he
  obtain ⟨n, hn⟩ : ∃ n, ms.length = n := ⟨_, rfl⟩
  have hn' : ms'.length = n := by omega
  rw [hn'] at ⊢
  rw [hn] at hlen ⊢
  have HN := Lib.hid hn
  have HN' := Lib.hid hn'
  clear hll hn hn'
  go_enter Try.func26, Try.ntmps26
  go_wp2
  go_loopw [7, 8, 9, 17] (fun _ _ _ i wr => ∃ j : Nat, j ≤ n ∧ i = .int .i64 j ∧ Below w.heap.size w wr) (fun _ _ _ i _ => n - (intOf i).toNat)
  case atStart => exact ⟨0, by omega, rfl, Below.refl _ _⟩
  case round =>
    obtain ⟨j, hj, rfl, hwr⟩ := hrel
    have hwz := hwr.size
    by_cases hjn : j < n
    · obtain ⟨ad, m, rfl, hab, hej, hc⟩ := H1.out.at' j (by rw [HN.out]; exact hjn)
      obtain ⟨ad', m', rfl, hab', hej', hc'⟩ := H2.out.at' j (by rw [HN'.out]; exact hjn)
      have hg : m.g = m'.g := by
        have h := congrArg (fun l => l[j]?) HE.out
        simp only [List.getElem?_map, hej, hej', Option.map_some] at h
        injection h
      have y0 : wr.cell? (ad.add j) = some (.slice m.A m.g.length m.cp) := (hwr.cell (by rw [add_block]; exact hab)).trans hc
      have x0 : wr.cell? (ad'.add j) = some (.slice m'.A m'.g.length m'.cp) := (hwr.cell (by rw [add_block]; exact hab')).trans hc'
      have hcall : ∀ W : World, Below w.heap.size w W → Calls Try.prog 13 #[.agg #[.slice m.A m.g.length m.cp], .agg #[.slice m'.A m'.g.length m'.cp]] W fun r w' => r = .returned (.bool true) ∧ Below W.heap.size W w' := fun W hW => by
        have h := sameg_any ((H1.out.gr m (List.mem_of_getElem? hej)).grow hW) ((H2.out.gr m' (List.mem_of_getElem? hej')).grow hW)
        rwa [isB_yes hg] at h
      have HCall := Lib.hid hcall
      have hba : (ad.add j).block < wr.heap.size := by rw [add_block]; omega
      have hba' : (ad'.add j).block < wr.heap.size := by rw [add_block]; omega
      clear hcall hc hc' hej hej' hg
      generalize m.A = A1 at HCall y0
      generalize m.g.length = n1 at HCall y0
      generalize m.cp = c1 at HCall y0
      generalize m'.A = A2 at HCall x0
      generalize m'.g.length = n2 at HCall x0
      generalize m'.cp = c2 at HCall x0
      go_wp2_with fail
      refine (HCall.out _ (by repeat (first | exact Below.refl _ _ | assumption | refine Below.drew ?_ | refine below_drewN ?_ _ | refine Below.alloc ?_ (by first | omega | (simp; omega) | simp) _ | refine Below.setCell ?_ (by first | omega | (simp; omega) | simp) _))).mono ?_
      rintro e w2 ⟨rfl, hb2⟩
      have hw2 : Below w.heap.size w w2 := Below.trans (by repeat (first | exact Below.refl _ _ | assumption | refine Below.drew ?_ | refine below_drewN ?_ _ | refine Below.alloc ?_ (by first | omega | (simp; omega) | simp) _ | refine Below.setCell ?_ (by first | omega | (simp; omega) | simp) _)) (hb2.mono (by first | omega | (simp; omega) | simp))
      clear hb2
      go_wp2
      go_roundw
      case rel => exact ⟨j + 1, by omega, by go_num, hw2⟩
      case measure => simp [intOf]; omega
    · obtain rfl : j = n := by omega
      go_wp2
      go_ret
      exact ⟨rfl, hwr⟩

end Go.Proofs.Ytefechceoeeonaa

/- The law MutateOwn, plain: mutants and their copies in rows, while other blocks change. -/
namespace Go.Proofs.Ytefechceoeeonaa
open Go.RowKit Go.Maps

theorem k8_small {e : Ex} (h : K8 e) : SmE e := by
  induction h with
  | mk k a b c d t ks hl _ ih => exact .mk k a b c d t ks (by omega) ih
theorem own_keepb {W W' : World} {base : Nat} {e : TypeId} {size : Nat} {v : Value} {n : Nat} {xs : List Value} (h : W.ownsRow base e size v n xs) (hk : ∀ q, v.ownBlock = some q → W'.heap[q]? = W.heap[q]?) : W'.ownsRow base e size v n xs := by
  refine ⟨h.1, ?_⟩
  rcases h.2 with h1 | ⟨g, cap, cur, h1, h2, h3, h4⟩
  · exact .inl h1
  · exact .inr ⟨g, cap, cur, h1, h2, (hk g (by rw [h1]; rfl)).trans h3, h4⟩
def MtC (W : World) (m : Mt) : Prop := ∃ L H, CaG W m.lo m.hi m.g m.A m.cp m.row L H
def MtR (W : World) (m : Mt) : Prop := ∃ bk L H, m.A = some ⟨bk, 0, none⟩ ∧ m.cp = m.g.length + 3 ∧ RmG W m.lo m.hi m.g bk m.row L H
theorem MtC.keep {W W' : World} {m : Mt} (h : MtC W m) (hk : ∀ b, m.lo ≤ b → b < m.hi → W'.heap[b]? = W.heap[b]?) : MtC W' m := by
  obtain ⟨L, H, h⟩ := h
  exact ⟨L, H, h.keep hk⟩
theorem MtC.is {W : World} {m : Mt} {B : Nat} (h : MtC W m) (hB : m.hi ≤ B) : GrIs W B m.g m.A m.cp m.row := by
  obtain ⟨L, H, h⟩ := h
  exact h.gr.is.more hB
theorem MtR.keep {W W' : World} {m : Mt} (h : MtR W m) (hk : ∀ b, m.lo ≤ b → b < m.hi → W'.heap[b]? = W.heap[b]?) : MtR W' m := by
  obtain ⟨bk, L, H, h1, h2, h⟩ := h
  exact ⟨bk, L, H, h1, h2, h.keep hk⟩
theorem MtR.is {W : World} {m : Mt} {B : Nat} (h : MtR W m) (hB : m.hi ≤ B) : GrIs W B m.g m.A m.cp m.row := by
  obtain ⟨bk, L, H, h1, h2, h⟩ := h
  rw [h1, h2]
  exact h.is hB
/-- grammars in a row, each on its own blocks -/
structure MtP (P : World → Mt → Prop) (base : Nat) (W : World) (ms : List Mt) (V : Option Addr) (c : Nat) : Prop where
  own : W.ownsRow base 24 1 (.slice V ms.length c) ms.length (ms.map Mt.val)
  gr : ∀ m ∈ ms, P W m ∧ base ≤ m.lo ∧ m.hi ≤ W.heap.size ∧ ∀ q, (Value.slice V ms.length c).ownBlock = some q → ¬ (m.lo ≤ q ∧ q < m.hi)
/-- it hangs on its own blocks alone -/
def Stay (P : World → Mt → Prop) : Prop := (∀ W W' m, P W m → (∀ b, m.lo ≤ b → b < m.hi → W'.heap[b]? = W.heap[b]?) → P W' m) ∧ ∀ W m, P W m → m.hi ≤ W.heap.size → GrIs W W.heap.size m.g m.A m.cp m.row
theorem stay_MtC : Stay MtC := ⟨fun _ _ _ h hk => h.keep hk, fun _ _ h hB => h.is hB⟩
theorem stay_MtR : Stay MtR := ⟨fun _ _ _ h hk => h.keep hk, fun _ _ h hB => h.is hB⟩
section
variable {P : World → Mt → Prop} {base : Nat} {W W' : World} {ms : List Mt} {V : Option Addr} {c : Nat}
theorem Mtc.plain (h : Mtc base W ms V c) : MtP MtC base W ms V c := ⟨h.own, h.gr⟩
theorem MtP.nil (P : World → Mt → Prop) (base : Nat) (W : World) : MtP P base W [] none 0 := ⟨World.ownsRow_nil _ _ _ _, fun m h => (by cases h)⟩
theorem MtP.keepb (hP : Stay P) (h : MtP P base W ms V c) (hs : W.heap.size ≤ W'.heap.size) (hk : ∀ q, base ≤ q → q < W.heap.size → W'.heap[q]? = W.heap[q]?) : MtP P base W' ms V c :=
  ⟨own_keepb h.own fun q hq => hk q (h.own.lt q hq).1 (h.own.lt q hq).2, fun m hm => by
    obtain ⟨h1, h2, h3, h4⟩ := h.gr m hm
    exact ⟨hP.1 _ _ _ h1 fun b b1 b2 => hk b (by omega) (by omega), h2, Nat.le_trans h3 hs, h4⟩⟩
theorem MtP.below (hP : Stay P) (h : MtP P base W ms V c) (hb : Below W.heap.size W W') : MtP P base W' ms V c := h.keepb hP hb.size fun q _ q2 => hb.block q q2
theorem MtP.out {lo hi : Nat} (hP : Stay P) (h : MtP P base W ms V c) (ho : OutS lo hi W W') (hh : hi ≤ base) : MtP P base W' ms V c := h.keepb hP ho.size fun q q1 q2 => ho.block q q2 (.inr (by omega))
/-- one more -/
theorem MtP.push {l : Nat} {V' : Option Addr} {c' : Nat} {m : Mt} (hP : Stay P) (hl : ms.length = l) (h : MtP P base W ms V c) (hg : P W m) (hlo : base ≤ m.lo) (hhi : m.hi ≤ W.heap.size) (hne : ∀ q, (Value.slice V l c).ownBlock = some q → ¬ (m.lo ≤ q ∧ q < m.hi))
    (hown : W'.ownsRow base 24 1 (.slice V' (l + 1) c') (l + 1) (ms.map Mt.val ++ [m.val])) (hgr : W.grownBy W' (Value.slice V l c).ownBlock) (hat : (Value.slice V' (l + 1) c').ownBlock = (Value.slice V l c).ownBlock ∨ (Value.slice V' (l + 1) c').ownBlock = some W.heap.size) :
    MtP P base W' (ms ++ [m]) V' c' := by
  subst hl
  have hl' : (ms ++ [m]).length = ms.length + 1 := by simp
  have hx : ∀ a : Mt, a.hi ≤ W.heap.size → (∀ q, (Value.slice V ms.length c).ownBlock = some q → ¬ (a.lo ≤ q ∧ q < a.hi)) → ∀ q, (Value.slice V' (ms.length + 1) c').ownBlock = some q → ¬ (a.lo ≤ q ∧ q < a.hi) := fun a h1 h2 q hq => by
    rcases hat with h3 | h3
    · rw [h3] at hq; exact h2 q hq
    · rw [h3] at hq; injection hq with hq; omega
  have hk : ∀ a : Mt, a.hi ≤ W.heap.size → (∀ q, (Value.slice V ms.length c).ownBlock = some q → ¬ (a.lo ≤ q ∧ q < a.hi)) → P W a → P W' a := fun a h1 h2 h3 =>
    hP.1 _ _ _ h3 fun q q1 q2 => hgr.block q (by omega) fun e => h2 _ e.symm ⟨q1, q2⟩
  refine ⟨by rw [hl', List.map_append]; exact hown, fun a ha => ?_⟩
  rw [hl']
  rcases List.mem_append.1 ha with ha | ha
  · obtain ⟨h1, h2, h3, h4⟩ := h.gr a ha
    exact ⟨hk a h3 h4 h1, h2, Nat.le_trans h3 hgr.size, hx a h3 h4⟩
  · rw [List.mem_singleton.1 ha]
    exact ⟨hk m hhi hne hg, hlo, Nat.le_trans hhi hgr.size, hx m hhi hne⟩
theorem MtP.at_ (h : MtP P base W ms V c) {j : Nat} (hj : j < ms.length) : ∃ ad m, V = some ad ∧ ad.block < W.heap.size ∧ ms[j]? = some m ∧ W.cell? (ad.add j) = some (.slice m.A m.g.length m.cp) := by
  obtain ⟨ad, u, h1, h2, h3, h4⟩ := (Reads.of_own h.own).at_ hj
  rw [List.getElem?_map, Option.map_eq_some_iff] at h3
  obtain ⟨m, h5, rfl⟩ := h3
  exact ⟨ad, m, h1, h2, h5, h4⟩
theorem MtP.grs (hP : Stay P) (h : MtP P base W ms V c) : GrsB W ms V := ⟨fun _ hj => h.at_ hj, fun m hm => hP.2 _ _ (h.gr m hm).1 (h.gr m hm).2.2.1⟩
/-- the row is still there, and all but one, when that one was spoilt -/
theorem mtc_but {k : Nat} {mk : Mt} (h : Mtc base W ms V c) (hk : ms[k]? = some mk) (ho : OutS mk.lo mk.hi W W') :
    (∀ j, j < ms.length → ∃ ad m, V = some ad ∧ ad.block < W'.heap.size ∧ ms[j]? = some m ∧ W'.cell? (ad.add j) = some (.slice m.A m.g.length m.cp)) ∧
    ∀ j m, j ≠ k → ms[j]? = some m → GrIs W' W'.heap.size m.g m.A m.cp m.row := by
  obtain ⟨k1, k2, k3, k4⟩ := h.gr mk (List.mem_of_getElem? hk)
  have hrow : ∀ q, (Value.slice V ms.length c).ownBlock = some q → W'.heap[q]? = W.heap[q]? := fun q hq => ho.block q (h.own.lt q hq).2 (by have := k4 q hq; omega)
  have hown := own_keepb h.own hrow
  refine ⟨fun j hj => ?_, fun j m hjk hj => ?_⟩
  · obtain ⟨ad, u, h1, h2, h3, h4⟩ := (Reads.of_own hown).at_ hj
    rw [List.getElem?_map, Option.map_eq_some_iff] at h3
    obtain ⟨m, h5, rfl⟩ := h3
    exact ⟨ad, m, h1, h2, h5, h4⟩
  · obtain ⟨h1, h2, h3, h4⟩ := h.gr m (List.mem_of_getElem? hj)
    have hd : m.hi ≤ mk.lo ∨ mk.hi ≤ m.lo := by
      obtain ⟨p1, p2⟩ := List.getElem?_eq_some_iff.1 hj
      obtain ⟨q1, q2⟩ := List.getElem?_eq_some_iff.1 hk
      have hpw := List.pairwise_iff_getElem.1 h.apart
      rcases Nat.lt_or_gt_of_ne hjk with hlt | hlt
      · have := hpw j k p1 q1 hlt; rw [p2, q2] at this; exact .inl this
      · have := hpw k j q1 p1 hlt; rw [p2, q2] at this; exact .inr this
    exact (MtC.keep h1 fun b b1 b2 => ho.block b (by omega) (by omega)).is (Nat.le_trans h3 ho.size)
end
/-- what Mutants leaves, right or wrong -/
theorem mutants_own {g : List Rl} {A : Option Addr} {cp : Nat} {row : Nat → List Value} {w : World} (h : GrIs w w.heap.size g A cp row) :
    Calls Try.prog 24 #[.agg #[.slice A g.length cp]] w fun e w' => Below w.heap.size w w' ∧ ∃ ms V c x, e = .returned (.tuple #[.slice V ms.length c, .int .i64 x]) ∧ Mtc w.heap.size w' ms V c ∧ ms.length ≤ 360 ∧ ∀ m ∈ ms, SmG m.g := by
  refine (mutantsC_any h).mono ?_
  rintro e w' ⟨hb, ⟨_, rfl⟩ | ⟨h0, ms, V, c, rfl, hms, hM⟩⟩
  · exact ⟨hb, [], none, 0, _, rfl, Mtc.nil _ _, by simp, fun m hm => by cases hm⟩
  · refine ⟨hb, ms, V, c, 0, rfl, hM, ?_, fun m hm => ?_⟩
    · have h1 := mut_len g
      have h2 := (well_of h0).right.nodes
      have h3 := congrArg List.length hms
      rw [List.length_map] at h3
      omega
    · have hmm := mut_mem (g := g) (by rw [← hms]; exact List.mem_map_of_mem hm)
      have hE := well_of hmm.1
      have h10 := hE.right.ten
      exact ⟨by omega, fun r hr => k8_small (k8_rt' (hE.right.rt _ hr))⟩
def oxG : List Rl := [(nameA, ofN 7 [litE ⟨#[120]⟩])]
theorem ox_well : (wellG oxG).2 = 0 := by decide +kernel
theorem ox_len : (mutG oxG).length = 1 := by kernel_rfl
theorem mutants_x {A : Option Addr} {cp : Nat} {row : Nat → List Value} {w : World} (h : GrIs w w.heap.size oxG A cp row) :
    Calls Try.prog 24 #[.agg #[.slice A 1 cp]] w fun e w' => Below w.heap.size w w' ∧ ∃ V c, e = .returned (.tuple #[.slice V 1 c, .int .i64 0]) := by
  refine (mutantsC_any h).mono ?_
  rintro e w' ⟨hb, ⟨hbad, _⟩ | ⟨h0, ms, V, c, rfl, hms, hM⟩⟩
  · exact absurd ox_well hbad
  · have h3 := congrArg List.length hms
    rw [List.length_map, ox_len] at h3
    exact ⟨hb, V, c, by rw [h3]⟩
end Go.Proofs.Ytefechceoeeonaa

/- The walk of the law MutateOwn. -/
namespace Go.Proofs.Ytefechceoeeonaa
open Go.RowKit

theorem OutS.below' {lo hi B : Nat} {w w' : World} (h : OutS lo hi w w') (h1 : B ≤ lo) (h2 : B ≤ w.heap.size) : Below B w w' := ⟨h.os, h.tape, h.output, h.size, fun b hb => h.block b (by omega) (.inl (by omega))⟩
theorem gram_info3 : (Try.prog.info? 24).map (fun i => (i.zero, i.size, i.bytes)) = some (some (.agg #[.slice none 0 0]), 1, 24) := by kernel_rfl
/-- while the copies are made -/
structure WtI (w6 : World) (ms : List Mt) (j : Nat) (Vw : Option Addr) (cw : Nat) (W : World) : Prop where
  bel : Below w6.heap.size w6 W
  row : ∃ ws : List Mt, ws.length = j ∧ MtP MtR w6.heap.size W ws Vw cw ∧ ws.map Mt.g = (ms.take j).map Mt.g

set_option maxRecDepth 100000 in
set_option maxHeartbeats 16000000 in
theorem walk_MutateOwn {g : List Rl} {A : Option Addr} {cp : Nat} {row : Nat → List Value} (k : Int) (w : World) (hg : GrIs w w.heap.size g A cp row) (hs : SmG g) :
    Calls Try.prog 7 #[.agg #[.slice A g.length cp], .int .i64 k] w fun e w' => e = .returned (.bool true) ∧ Below w.heap.size w w' := by
  have hlit := lit_b ⟨#[120]⟩
  have hof := of_b
  have hone := fun (W : World) (b1 : Nat) (h1 : Blk W b1 38 (exCells 3 0 0 0 0 ⟨#[120]⟩ none 0 0).toArray) =>
    one_b (ofN 7 [litE ⟨#[120]⟩]) _ W (ex_one (litE_is W _ (by decide)) h1 (by simp) 7)
  have hroom := fun W (hW : Below w.heap.size w W) => roomyG_any (hg.grow hW) hs
  unfold exCells at hlit hof hone
  have HL := Lib.hid hlit
  have HF := Lib.hid hof
  have HO := Lib.hid hone
  have HR := Lib.hid hroom
  have HG := Lib.hid hg
  obtain ⟨i2, hi2, hu0, hu1, hu2⟩ := info_parts gram_info3
  clear hlit hof hone hroom hg hs
  go_enter Try.func7, Try.ntmps7
  go_wp2_with fail
  refine (HR.out _ (by repeat (first | exact Below.refl _ _ | assumption | refine Below.drew ?_ | refine below_drewN ?_ _ | refine Below.alloc ?_ (by first | omega | (simp; omega) | simp) _ | refine Below.setCell ?_ (by first | omega | (simp; omega) | simp) _))).mono ?_
  rintro e w1 ⟨⟨bk, rows, Ls, Hs, rfl, hR⟩, hb1⟩
  replace hR := hR.mono (lo' := w.heap.size + 1) (by simp) (Nat.le_refl _)
  have hgx : Blk w1 w.heap.size 24 #[.slice A g.length cp] := (blk_at rfl).below hb1 (by first | omega | (simp; omega) | simp)
  have hw1 : Below w.heap.size w w1 := ((Below.refl _ w).alloc (Nat.le_refl _) _).trans (hb1.mono (by first | omega | (simp; omega) | simp))
  have hz1 := hw1.size
  have hl1 := hgx.lt
  clear hb1 HR
  go_upto_region 2 with fail
  replace hR := hR.keep (W' := w1.alloc (.cells #[.slice (some ⟨bk, 0, none⟩) g.length (g.length + 3)] 24)) fun q _ q2 => Below.heap_alloc _ _ _ q2
  replace hgx := hgx.alloc (.cells #[.slice (some ⟨bk, 0, none⟩) g.length (g.length + 3)] 24)
  replace hw1 := hw1.alloc hz1 (.cells #[.slice (some ⟨bk, 0, none⟩) g.length (g.length + 3)] 24)
  have hin : Blk (w1.alloc (.cells #[.slice (some ⟨bk, 0, none⟩) g.length (g.length + 3)] 24)) w1.heap.size 24 #[.slice (some ⟨bk, 0, none⟩) g.length (g.length + 3)] := blk_at rfl
  generalize (w1.alloc (.cells #[.slice (some ⟨bk, 0, none⟩) g.length (g.length + 3)] 24)) = w2 at hR hgx hw1 hin ⊢
  generalize w1.heap.size = ib at hR hin hz1 hl1 ⊢
  clear hz1
  have hil := hin.lt
  have n0 : w2.cell? ⟨ib, 0, none⟩ = some (.slice (some ⟨bk, 0, none⟩) g.length (g.length + 3)) := hin.cell 0
  have HK := Lib.hid (mutants_own (hR.is (Nat.le_of_lt hil)))
  go_wp2_with fail
  refine HK.out.mono ?_
  rintro e w3 ⟨hb3, ms, V, c, x, rfl, hM, hlen, hsm⟩
  replace hgx := hgx.below hb3 hgx.lt
  replace hin := hin.below hb3 hin.lt
  replace hR := hR.keep fun q _ q2 => hb3.block q (by omega)
  replace hw1 := hw1.trans (hb3.mono hw1.size)
  have hz3 := hb3.size
  have HM := Lib.hid hM
  have HSM := Lib.hid hsm
  clear hb3 n0 HK hM hsm
  obtain ⟨n, hn⟩ : ∃ n, ms.length = n := ⟨_, rfl⟩
  rw [hn] at hlen ⊢
  have HN := Lib.hid hn
  clear hn
  have g0 : w3.cell? ⟨w.heap.size, 0, none⟩ = some (.slice A g.length cp) := hgx.cell 0
  have i0 : w3.cell? ⟨ib, 0, none⟩ = some (.slice (some ⟨bk, 0, none⟩) g.length (g.length + 3)) := hin.cell 0
  have hsame := sameg_any (hR.is (Nat.le_of_lt hin.lt)) (HG.out.grow hw1)
  rw [isB_yes rfl] at hsame
  have HSA := Lib.hid hsame
  clear hsame
  generalize hz2 : w2.heap.size = z2 at hil HM hz3
  clear hz2
  go_wp2_with fail
  refine HSA.out.mono ?_
  rintro e w5 ⟨rfl, hb5⟩
  replace hin := hin.below hb5 hin.lt
  replace hR := hR.keep fun q _ q2 => hb5.block q (by omega)
  replace hw1 := hw1.trans (hb5.mono hw1.size)
  have HM5 := Lib.hid (HM.out.below hb5)
  have hz5 := hb5.size
  clear hb5 g0 i0 hgx HSA HG HM
  have i0 : w5.cell? ⟨ib, 0, none⟩ = some (.slice (some ⟨bk, 0, none⟩) g.length (g.length + 3)) := hin.cell 0
  go_wp2_with fail
  refine (markedG_any hR (by omega)).mono ?_
  rintro e w6 ⟨rfl, hb6⟩
  replace hin := hin.below hb6 hin.lt
  replace hR := hR.keep fun q _ q2 => hb6.block q (by omega)
  replace hw1 := hw1.trans (hb6.mono hw1.size)
  have HM6 := Lib.hid (HM5.out.below hb6)
  have hz6 := hb6.size
  have hz26 : z2 ≤ w6.heap.size := by omega
  clear hb6 i0 HM5 hz5 hz6 hz3
  have HW0 : Hid (WtI w6 ms 0 none 0 w6) := ⟨Below.refl _ _, [], rfl, MtP.nil _ _ _, rfl⟩
  go_wp2
  go_loopw [8, 33] (fun v i wr => ∃ (j : Nat) (Vw : Option Addr) (cw : Nat), j ≤ n ∧ i = .int .i64 j ∧ v = .slice Vw j cw ∧ Hid (WtI w6 ms j Vw cw wr)) (fun _ i _ => n - (intOf i).toNat)
  case atStart => exact ⟨0, none, 0, by omega, rfl, rfl, HW0⟩
  case round =>
    clear HW0
    obtain ⟨j, Vw, cw, hj, rfl, rfl, HI⟩ := hrel
    have hwr := HI.out.bel
    have hzr := hwr.size
    by_cases hjn : j < n
    · obtain ⟨ad, m, rfl, hab, hej, hc⟩ := HM6.out.plain.at_ (j := j) (by rw [HN.out]; exact hjn)
      have y0 : wr.cell? (ad.add j) = some (.slice m.A m.g.length m.cp) := (hwr.cell (by rw [add_block]; exact hab)).trans hc
      have hjl : (j : Int) < (n : Int) := by omega
      have hba : (ad.add j).block < wr.heap.size := by rw [add_block]; omega
      have hG6 : GrIs w6 w6.heap.size m.g m.A m.cp m.row := HM6.out.plain.grs stay_MtC |>.gr m (List.mem_of_getElem? hej)
      have hcopy := fun W (hW : Below w6.heap.size w6 W) => copied_any (hG6.grow hW) (HSM.out m (List.mem_of_getElem? hej))
      have HCP := Lib.hid hcopy
      have HEJ := Lib.hid hej
      clear hcopy hG6 hej hc
      go_upto_region 9 with fail
      clear y0
      have hwa : Below w6.heap.size w6 (wr.alloc (.cells #[.slice m.A m.g.length m.cp] 24)) := hwr.alloc hzr _
      have hmx : Blk (wr.alloc (.cells #[.slice m.A m.g.length m.cp] 24)) wr.heap.size 24 #[.slice m.A m.g.length m.cp] := blk_at rfl
      obtain ⟨ws, hws1, hws2, hws3⟩ := HI.out.row
      have hwsa := hws2.below stay_MtR ((Below.refl _ wr).alloc (Nat.le_refl _) (.cells #[.slice m.A m.g.length m.cp] 24))
      have hsza : (wr.alloc (.cells #[.slice m.A m.g.length m.cp] 24)).heap.size = wr.heap.size + 1 := by simp
      have HWS3 := Lib.hid hws3
      have HWSA := Lib.hid hwsa
      have HWS1 := Lib.hid hws1
      clear hws1 hws2 hws3 hwsa HI
      generalize (wr.alloc (.cells #[.slice m.A m.g.length m.cp] 24)) = wa at hwa hmx hsza HWSA ⊢
      generalize wr.heap.size = mb at hmx hsza ⊢
      have m0 : wa.cell? ⟨mb, 0, none⟩ = some (.slice m.A m.g.length m.cp) := hmx.cell 0
      obtain ⟨mg, hmg⟩ : ∃ mg, m.g = mg := ⟨_, rfl⟩
      have HMG := Lib.hid hmg
      rw [hmg] at m0 HCP
      clear hmg
      go_wp2_with fail
      refine (HCP.out _ hwa).mono ?_
      rintro e w7 ⟨⟨bk2, rows2, L2, H2, rfl, hW⟩, hb7⟩
      have hw7 := hwa.trans (hb7.mono hwa.size)
      have hz7 := hw7.size
      have hza7 := hb7.size
      have hws7 := HWSA.out.below stay_MtR hb7
      have hOM := hws7.own.alloc (.cells #[.slice (some ⟨bk2, 0, none⟩) mg.length (mg.length + 3)] 24)
      rw [HWS1.out] at hOM
      have HOM := Lib.hid hOM
      have HW7 := Lib.hid (hw7.alloc hz7 (.cells #[.slice (some ⟨bk2, 0, none⟩) mg.length (mg.length + 3)] 24))
      have HWS7 := Lib.hid (hws7.below stay_MtR ((Below.refl _ w7).alloc (Nat.le_refl _) (.cells #[.slice (some ⟨bk2, 0, none⟩) mg.length (mg.length + 3)] 24)))
      have HPR : Hid (MtR (w7.alloc (.cells #[.slice (some ⟨bk2, 0, none⟩) mg.length (mg.length + 3)] 24)) ⟨some ⟨bk2, 0, none⟩, mg, mg.length + 3, rows2, wa.heap.size, w7.heap.size⟩) := ⟨bk2, L2, H2, rfl, rfl, hW.keep fun q _ q2 => Below.heap_alloc _ _ _ q2⟩
      have hold : ∀ q, (Value.slice Vw j cw).ownBlock = some q → q < wa.heap.size := fun q hq => (HWSA.out.own.lt q (by rw [HWS1.out]; exact hq)).2
      have HOLD := Lib.hid hold
      have hza6 := hwa.size
      clear hW hb7 hw7 hws7 hOM hold hwa hmx m0
      go_wp2_with (at_builtin; refine wpList_append_own_at _ rfl _ _ _ rfl w6.heap.size 24 i2 _ 1 24 Try.underlying47 hi2 hu0 hu1 hu2 rfl (by decide) _ j (ws.map Mt.val) rfl HOM.out ⟨w7.heap.size, 0, none⟩ 1 1 [.slice (some ⟨bk2, 0, none⟩) mg.length (mg.length + 3)] rfl rfl (new_cells w7 24 [.slice (some ⟨bk2, 0, none⟩) mg.length (mg.length + 3)]) (by simp [Value.oneCell']) (by unfold maxLen; omega) (by omega) (by simp; omega) ?_; intro v' w8 hown8 hgr8 _ hat8; obtain ⟨V8, c8, rfl⟩ := own_form hown8)
      have hpush := HWS7.out.push (m := ⟨some ⟨bk2, 0, none⟩, mg, mg.length + 3, rows2, wa.heap.size, w7.heap.size⟩) stay_MtR HWS1.out HPR.out (by show _ ≤ wa.heap.size; omega) (by show w7.heap.size ≤ _; simp) (fun q hq hx => by have := HOLD.out q hq; simp only at hx; omega) hown8 hgr8 hat8
      have HI8 : Hid (WtI w6 ms (j + 1) V8 c8 w8) := by
        refine ⟨below_app HW7.out HOM.out hgr8 HW7.out.size (Nat.le_refl _), ws ++ [⟨some ⟨bk2, 0, none⟩, mg, mg.length + 3, rows2, wa.heap.size, w7.heap.size⟩], by rw [List.length_append, HWS1.out]; rfl, hpush, ?_⟩
        rw [take_succ_of HEJ.out, List.map_append, List.map_append, HWS3.out]
        simp [HMG.out]
      clear hpush hown8 hgr8 hat8
      go_roundw
      case rel => exact ⟨j + 1, V8, c8, by omega, by go_num, rfl, HI8⟩
      case measure => simp [intOf]; omega
    · obtain rfl : j = n := by omega
      obtain ⟨ws, hws1, hws2, hws3⟩ := HI.out.row
      rw [List.take_of_length_le (by rw [HN.out]; exact Nat.le_refl _)] at hws3
      replace hin := hin.below hwr hin.lt
      replace hR := hR.keep fun q _ q2 => hwr.block q (by omega)
      replace hw1 := hw1.trans (hwr.mono hw1.size)
      have hMr := HM6.out.below hwr
      have hhi6 : ∀ m ∈ ms, z2 ≤ m.lo ∧ m.hi ≤ w6.heap.size := fun m hm => ⟨(HM6.out.gr m hm).2.1, (HM6.out.gr m hm).2.2.1⟩
      have HH6 := Lib.hid hhi6
      have HMR := Lib.hid hMr
      have HW2 := Lib.hid hws2
      have HW3 := Lib.hid hws3
      have HW1 := Lib.hid hws1
      have hw0r := hw1.size
      clear hhi6 hMr hws1 hws2 hws3 HI HM6 hwr HSM
      have i0 : wr.cell? ⟨ib, 0, none⟩ = some (.slice (some ⟨bk, 0, none⟩) g.length (g.length + 3)) := hin.cell 0
      have hil2 := hin.lt
      go_wp2_with fail
      refine (spoilG_any hR (by omega)).mono ?_
      rintro e w9 ⟨rfl, ho⟩
      replace hw1 := hw1.trans (ho.below' (by omega) hw0r)
      have hM9 : Mtc z2 w9 ms V c := ⟨(HMR.out.plain.out stay_MtC ho (by omega)).own, (HMR.out.plain.out stay_MtC ho (by omega)).gr, HMR.out.apart⟩
      have hW9 := HW2.out.out stay_MtR ho (by omega)
      have hz9 := ho.size
      clear ho hR hin i0 HW2 HMR hil2
      have hq := equalG_yes (c := c) (c' := cw) (hM9.plain.grs stay_MtC) (hW9.grs stay_MtR) HW3.out.symm (by rw [HN.out]; omega)
      rw [HN.out, HW1.out] at hq
      have HEQ := Lib.hid hq
      have HM9 := Lib.hid hM9
      have HW9 := Lib.hid hW9
      have hw9 := hw1.size
      clear hq hM9 hW9
      go_wp2_with fail
      refine HEQ.out.mono ?_
      rintro e wa ⟨rfl, hba⟩
      replace hw1 := hw1.trans (hba.mono hw9)
      have HMA := Lib.hid (HM9.out.below hba)
      have HWA := Lib.hid (HW9.out.below stay_MtR hba)
      have hz6a : w6.heap.size ≤ wa.heap.size := by have := hba.size; omega
      have hwa1 := hw1.size
      clear hba HM9 HW9 HEQ
      have hfin : ∀ W, Below w.heap.size w W → True := fun _ _ => trivial
      by_cases hn0 : 0 < j
      · have hni : (0 : Int) < (j : Int) := by omega
        go_wp2_with fail
        refine (within_any k j hn0 (by omega) _).mono ?_
        rintro e wb ⟨rfl, hbb⟩
        have hkk := wiN_lt k hn0
        generalize wiN k j = kk at hkk ⊢
        replace hw1 := hw1.trans (hbb.mono hwa1)
        have hMB := HMA.out.below hbb
        have hWB := HWA.out.below stay_MtR hbb
        have hzb := hbb.size
        have hwb1 := hw1.size
        clear hbb HMA HWA
        obtain ⟨ad, mk, rfl, hab, hek, hck⟩ := hMB.plain.at_ (j := kk) (by rw [HN.out]; exact hkk)
        obtain ⟨⟨Lk, Hk, hCG⟩, hk1, hk2, hk3⟩ := hMB.gr mk (List.mem_of_getElem? hek)
        have hk6 := (HH6.out mk (List.mem_of_getElem? hek)).2
        have hkki : (kk : Int) < (j : Int) := by omega
        have hbk : (ad.add kk).block < wb.heap.size := by rw [add_block]; omega
        have HCG := Lib.hid hCG
        have HMB := Lib.hid hMB
        have HWB := Lib.hid hWB
        have HEK := Lib.hid hek
        have HSP := Lib.hid (spoilGC_any hCG hk2)
        obtain ⟨mg, hmg⟩ : ∃ mg, mk.g.length = mg := ⟨_, rfl⟩
        rw [hmg] at hck HSP
        clear hCG hMB hWB hek hk3 hmg
        go_wp2_with fail
        refine HSP.out.mono ?_
        rintro e wc ⟨rfl, hoc⟩
        obtain ⟨hat, hgr⟩ := mtc_but HMB.out HEK.out hoc
        have hWC := HWB.out.out stay_MtR hoc hk6
        replace hw1 := hw1.trans (hoc.below' (by omega) hwb1)
        have HAT := Lib.hid hat
        have HGR := Lib.hid hgr
        have HWC := Lib.hid hWC
        have hwc1 := hw1.size
        clear hat hgr hWC hoc HMB HWB HCG HSP HEK hck
        go_wp2
        go_loopw [63] (fun i wr => ∃ q : Nat, q ≤ j ∧ i = .int .i64 q ∧ Below wc.heap.size wc wr) (fun i _ => j - (intOf i).toNat)
        case atStart => exact ⟨0, by omega, rfl, Below.refl _ _⟩
        case round =>
          obtain ⟨q, hq, rfl, hwr⟩ := hrel
          have hzr := hwr.size
          by_cases hqj : q < j
          · obtain ⟨ad1, m, hV1, hab1, hej, hc⟩ := HAT.out q (by rw [HN.out]; exact hqj)
            injection hV1 with hV1
            subst hV1
            obtain ⟨ad2, m2, rfl, hab2, hej2, hc2⟩ := HWC.out.at_ (j := q) (by rw [HW1.out]; exact hqj)
            have hgg : m.g = m2.g := by
              have h := congrArg (fun l => l[q]?) HW3.out
              simp only [List.getElem?_map, hej, hej2, Option.map_some] at h
              injection h with h
              exact h.symm
            have y0 : wr.cell? (ad.add q) = some (.slice m.A m.g.length m.cp) := (hwr.cell (by rw [add_block]; exact hab1)).trans hc
            have hq1 : (ad.add q).block < wr.heap.size := by rw [add_block]; omega
            have hq2 : (ad2.add q).block < wr.heap.size := by rw [add_block]; omega
            have hqi : (q : Int) < (j : Int) := by omega
            have x0 : (wr.alloc (.cells #[.slice m.A m.g.length m.cp] 24)).cell? (ad2.add q) = some (.slice m2.A m2.g.length m2.cp) := (World.cell?_alloc_lt wr _ _ hq2).trans ((hwr.cell (by rw [add_block]; exact hab2)).trans hc2)
            have hmx : Blk (wr.alloc (.cells #[.slice m.A m.g.length m.cp] 24)) wr.heap.size 24 #[.slice m.A m.g.length m.cp] := blk_at rfl
            have hwe : Below wc.heap.size wc (wr.alloc (.cells #[.slice m.A m.g.length m.cp] 24)) := hwr.alloc hzr _
            have hG2 := (HWC.out.grs stay_MtR).gr m2 (List.mem_of_getElem? hej2)
            have hsz : (wr.alloc (.cells #[.slice m.A m.g.length m.cp] 24)).heap.size = wr.heap.size + 1 := by simp
            by_cases hqk : q = kk
            · have hqb : ((q : Int) != (kk : Int)) = false := by rw [bne_eq_false_iff_eq]; omega
              clear hqk hG2 hgg hej hej2 hc hc2
              go_upto_region 20 with fail
              clear y0
              generalize (wr.alloc (.cells #[.slice m.A m.g.length m.cp] 24)) = we at x0 hmx hwe hsz ⊢
              refine wp_region_l (Below we.heap.size we) (fun _ => false) (by kernel_rfl) ?_
              have hC : Below we.heap.size we we.drew := (Below.refl _ _).drew
              generalize we.drew = wd at hC ⊢
              apply L.rd (i := 0) rfl (by kernel_rfl) hC rfl
              · intro W hW
                skip
                unfold readW
                go_simp
                first | rfl | exact ⟨rfl, rfl⟩
              first | simp only [Act.put, List.setIfInBounds_toArray, List.set_cons_succ, List.set_cons_zero] | skip
              apply L.rd (i := 1) rfl (by kernel_rfl) hC rfl
              · intro W hW
                skip
                unfold readW
                go_simp
                first | rfl | exact ⟨rfl, rfl⟩
              first | simp only [Act.put, List.setIfInBounds_toArray, List.set_cons_succ, List.set_cons_zero] | skip
              apply L.rd (i := 2) rfl (by kernel_rfl) hC rfl
              · intro W hW
                skip
                unfold readW
                go_simp
                first | rfl | exact ⟨rfl, rfl⟩
              first | simp only [Act.put, List.setIfInBounds_toArray, List.set_cons_succ, List.set_cons_zero] | skip
              apply L.rd (i := 3) rfl (by kernel_rfl) hC rfl
              · intro W hW
                skip
                unfold readW
                go_simp
                first | rfl | exact ⟨rfl, rfl⟩
              first | simp only [Act.put, List.setIfInBounds_toArray, List.set_cons_succ, List.set_cons_zero] | skip
              apply L.skip (i := 4) rfl (by kernel_rfl) hC (by kernel_rfl)
              first | simp only [Act.put, List.setIfInBounds_toArray, List.set_cons_succ, List.set_cons_zero] | skip
              first | simp only [Act.put, List.setIfInBounds_toArray, List.set_cons_succ, List.set_cons_zero] | skip
              apply L.skip (i := 5) rfl (by kernel_rfl) hC (by kernel_rfl)
              first | simp only [Act.put, List.setIfInBounds_toArray, List.set_cons_succ, List.set_cons_zero] | skip
              first | simp only [Act.put, List.setIfInBounds_toArray, List.set_cons_succ, List.set_cons_zero] | skip
              apply L.skip (i := 6) rfl (by kernel_rfl) hC (by kernel_rfl)
              first | simp only [Act.put, List.setIfInBounds_toArray, List.set_cons_succ, List.set_cons_zero] | skip
              first | simp only [Act.put, List.setIfInBounds_toArray, List.set_cons_succ, List.set_cons_zero] | skip
              apply L.skip (i := 7) rfl (by kernel_rfl) hC (by kernel_rfl)
              first | simp only [Act.put, List.setIfInBounds_toArray, List.set_cons_succ, List.set_cons_zero] | skip
              first | simp only [Act.put, List.setIfInBounds_toArray, List.set_cons_succ, List.set_cons_zero] | skip
              apply L.skip (i := 8) rfl (by kernel_rfl) hC (by kernel_rfl)
              first | simp only [Act.put, List.setIfInBounds_toArray, List.set_cons_succ, List.set_cons_zero] | skip
              first | simp only [Act.put, List.setIfInBounds_toArray, List.set_cons_succ, List.set_cons_zero] | skip
              apply L.skip (i := 9) rfl (by kernel_rfl) hC (by kernel_rfl)
              first | simp only [Act.put, List.setIfInBounds_toArray, List.set_cons_succ, List.set_cons_zero] | skip
              first | simp only [Act.put, List.setIfInBounds_toArray, List.set_cons_succ, List.set_cons_zero] | skip
              apply L.skip (i := 10) rfl (by kernel_rfl) hC (by kernel_rfl)
              first | simp only [Act.put, List.setIfInBounds_toArray, List.set_cons_succ, List.set_cons_zero] | skip
              first | simp only [Act.put, List.setIfInBounds_toArray, List.set_cons_succ, List.set_cons_zero] | skip
              apply L.rd (i := 11) rfl (by kernel_rfl) hC rfl
              · intro W hW
                skip
                unfold readW
                go_simp
                first | rfl | exact ⟨rfl, rfl⟩
              first | simp only [Act.put, List.setIfInBounds_toArray, List.set_cons_succ, List.set_cons_zero] | skip
              refine L.done (by kernel_rfl) ?_
              have hwn := hwe.trans (hC.mono hwe.size)
              clear hC x0 hmx hwe
              go_wp2
              go_roundw
              case rel => exact ⟨q + 1, by omega, by go_num, hwn⟩
              case measure => simp [intOf]; omega
            · have hqb : ((q : Int) != (kk : Int)) = true := by rw [bne_iff_ne]; omega
              have hG1 := HGR.out q m hqk hej
              have hsame := fun W (hW : Below wc.heap.size wc W) => sameg_any (hG1.grow hW) (hG2.grow hW)
              rw [isB_yes hgg] at hsame
              have HSAME := Lib.hid hsame
              clear hqk hG1 hG2 hsame hgg hej hej2 hc hc2
              go_upto_region 20 with fail
              clear y0
              generalize (wr.alloc (.cells #[.slice m.A m.g.length m.cp] 24)) = we at x0 hmx hwe hsz ⊢
              have hq3 : (ad2.add q).block < we.heap.size := by omega
              clear hsz
              generalize m2.g.length = n2 at x0 HSAME
              generalize m.g.length = n1 at hmx HSAME ⊢
              refine wp_region_l (Below we.heap.size we) (fun _ => false) (by kernel_rfl) ?_
              have hC : Below we.heap.size we we.drew := (Below.refl _ _).drew
              generalize we.drew = wd at hC ⊢
              apply L.rd (i := 0) rfl (by kernel_rfl) hC rfl
              · intro W hW
                skip
                unfold readW
                go_simp
                first | rfl | exact ⟨rfl, rfl⟩
              first | simp only [Act.put, List.setIfInBounds_toArray, List.set_cons_succ, List.set_cons_zero] | skip
              apply L.rd (i := 1) rfl (by kernel_rfl) hC rfl
              · intro W hW
                skip
                unfold readW
                go_simp
                first | rfl | exact ⟨rfl, rfl⟩
              first | simp only [Act.put, List.setIfInBounds_toArray, List.set_cons_succ, List.set_cons_zero] | skip
              apply L.rd (i := 2) rfl (by kernel_rfl) hC rfl
              · intro W hW
                skip
                unfold readW
                go_simp
                first | rfl | exact ⟨rfl, rfl⟩
              first | simp only [Act.put, List.setIfInBounds_toArray, List.set_cons_succ, List.set_cons_zero] | skip
              apply L.rd (i := 3) rfl (by kernel_rfl) hC rfl
              · intro W hW
                skip
                unfold readW
                go_simp
                first | rfl | exact ⟨rfl, rfl⟩
              first | simp only [Act.put, List.setIfInBounds_toArray, List.set_cons_succ, List.set_cons_zero] | skip
              apply L.rdg (i := 4) rfl (by kernel_rfl) hC (by kernel_rfl)
              · intro W hW
                have n0 := (hmx.below hW hmx.lt).cell 0
                unfold readW
                go_simp
                first | rfl | exact ⟨rfl, rfl⟩
              first | simp only [Act.put, List.setIfInBounds_toArray, List.set_cons_succ, List.set_cons_zero] | skip
              apply L.rdg (i := 5) rfl (by kernel_rfl) hC (by kernel_rfl)
              · intro W hW
                skip
                unfold readW
                go_simp
                first | rfl | exact ⟨rfl, rfl⟩
              first | simp only [Act.put, List.setIfInBounds_toArray, List.set_cons_succ, List.set_cons_zero] | skip
              apply L.rdg (i := 6) rfl (by kernel_rfl) hC (by kernel_rfl)
              · intro W hW
                skip
                unfold readW
                go_simp
                first | rfl | exact ⟨rfl, rfl⟩
              first | simp only [Act.put, List.setIfInBounds_toArray, List.set_cons_succ, List.set_cons_zero] | skip
              apply L.rdg (i := 7) rfl (by kernel_rfl) hC (by kernel_rfl)
              · intro W hW
                skip
                unfold readW
                go_simp
                first | rfl | exact ⟨rfl, rfl⟩
              first | simp only [Act.put, List.setIfInBounds_toArray, List.set_cons_succ, List.set_cons_zero] | skip
              apply L.rdg (i := 8) rfl (by kernel_rfl) hC (by kernel_rfl)
              · intro W hW
                have n0 := (hW.cell (p := ad2.add q) hq3).trans x0
                unfold readW
                go_simp
                first | rfl | exact ⟨rfl, rfl⟩
              first | simp only [Act.put, List.setIfInBounds_toArray, List.set_cons_succ, List.set_cons_zero] | skip
              apply L.oneg (i := 9) rfl (by kernel_rfl) (by kernel_rfl)
              unfold stepT
              go_simp
              go_at_call 13
              refine (HSAME.out _ (hwe.trans (hC.mono hwe.size))).mono ?_
              rintro e wn ⟨rfl, hbn⟩
              replace hC := hC.trans (hbn.mono hC.size)
              clear hbn
              refine ⟨_, rfl, hC, ?_⟩
              first | simp only [Act.put, List.setIfInBounds_toArray, List.set_cons_succ, List.set_cons_zero] | skip
              apply L.rdg (i := 10) rfl (by kernel_rfl) hC (by kernel_rfl)
              · intro W hW
                skip
                unfold readW
                go_simp
                first | rfl | exact ⟨rfl, rfl⟩
              first | simp only [Act.put, List.setIfInBounds_toArray, List.set_cons_succ, List.set_cons_zero] | skip
              apply L.rd (i := 11) rfl (by kernel_rfl) hC rfl
              · intro W hW
                skip
                unfold readW
                go_simp
                first | rfl | exact ⟨rfl, rfl⟩
              first | simp only [Act.put, List.setIfInBounds_toArray, List.set_cons_succ, List.set_cons_zero] | skip
              refine L.done (by kernel_rfl) ?_
              have hwn := hwe.trans (hC.mono hwe.size)
              clear hC x0 hmx hwe HSAME
              go_wp2
              go_roundw
              case rel => exact ⟨q + 1, by omega, by go_num, hwn⟩
              case measure => simp [intOf]; omega
          · obtain rfl : q = j := by omega
            replace hw1 := hw1.trans (hwr.mono hwc1)
            clear hwr HAT HGR HWC HW1 HW3 hfin
            go_wp2_with fail
            refine (HL.out _).mono ?_
            rintro e wl ⟨rfl, hbl⟩
            replace hw1 := hw1.trans (hbl.mono hw1.size)
            have hz1 := hw1.size
            clear hbl
            go_wp2_with fail
            refine (HF.out _ _ _ _ _).mono ?_
            rintro e wm ⟨rfl, hbm⟩
            have hkb := (blk_at (w := wl) (t := 38) (cs := #[.int .i64 3, .int .u64 0, .int .u64 0, .int .u64 0, .int .u64 0, .string ⟨#[120]⟩, .slice none 0 0]) rfl).below hbm (by simp)
            replace hw1 := (hw1.alloc hz1 _).trans (hbm.mono (by simp; omega))
            clear hbm hz1
            generalize wl.heap.size = b1 at hkb ⊢
            go_wp2_with fail
            refine (HO.out _ _ hkb).mono ?_
            rintro e wo ⟨b3, rfl, hG1, hbo⟩
            replace hw1 := hw1.trans (hbo.mono hw1.size)
            clear hbo hkb
            have HX := Lib.hid (mutants_x hG1)
            clear hG1
            go_wp2_with fail
            refine HX.out.mono ?_
            rintro e wx ⟨hbx, V5, c5, rfl⟩
            replace hw1 := hw1.trans (hbx.mono hw1.size)
            clear hbx HX
            go_wp2
            go_ret
            exact ⟨rfl, hw1⟩
      · have hni : ¬ ((0 : Int) < (j : Int)) := by omega
        obtain rfl : j = 0 := by omega
        clear HMA HWA HW1 HW3 hfin
        go_wp2_with fail
        refine (HL.out _).mono ?_
        rintro e wl ⟨rfl, hbl⟩
        replace hw1 := hw1.trans (hbl.mono hw1.size)
        have hz1 := hw1.size
        clear hbl
        go_wp2_with fail
        refine (HF.out _ _ _ _ _).mono ?_
        rintro e wm ⟨rfl, hbm⟩
        have hkb := (blk_at (w := wl) (t := 38) (cs := #[.int .i64 3, .int .u64 0, .int .u64 0, .int .u64 0, .int .u64 0, .string ⟨#[120]⟩, .slice none 0 0]) rfl).below hbm (by simp)
        replace hw1 := (hw1.alloc hz1 _).trans (hbm.mono (by simp; omega))
        clear hbm hz1
        generalize wl.heap.size = b1 at hkb ⊢
        go_wp2_with fail
        refine (HO.out _ _ hkb).mono ?_
        rintro e wo ⟨b3, rfl, hG1, hbo⟩
        replace hw1 := hw1.trans (hbo.mono hw1.size)
        clear hbo hkb
        have HX := Lib.hid (mutants_x hG1)
        clear hG1
        go_wp2_with fail
        refine HX.out.mono ?_
        rintro e wx ⟨hbx, V5, c5, rfl⟩
        replace hw1 := hw1.trans (hbx.mono hw1.size)
        clear hbx HX
        go_wp2
        go_ret
        exact ⟨rfl, hw1⟩
end Go.Proofs.Ytefechceoeeonaa
