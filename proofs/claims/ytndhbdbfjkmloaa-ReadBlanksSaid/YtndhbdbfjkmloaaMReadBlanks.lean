/- chaffref.Same and SameGrammar: are two expressions, two grammars the same? The walk of the law ReadBlanks. The law ReadBlanks: for every input it returns true, and each argument reads afterwards as it read before. The frame is written by a program of ours after the guide's own shell; the walk is in the text it imports. Conditions: none but the statement's own. -/
import Derived.Test.YtndhbdbfjkmloaaJReadBlanks8
import Derived.Test.YtndhbdbfjkmloaaJReadBlanks1
import Derived.Test.YtndhbdbfjkmloaaJReadBlanks15
import Derived.KernelRfl
import Derived.Test.YtndhbdbfjkmloaaRows
import Derived.Test.YtndhbdbfjkmloaaJReadBlanks2
namespace Go.Proofs.Ytndhbdbfjkmloaa
open Go.RowKit

/-- is it so? -/
noncomputable def isB (p : Prop) : Bool := @decide p (Classical.propDecidable p)
theorem isB_iff {p : Prop} : isB p = true ↔ p := by unfold isB; exact @decide_eq_true_iff p (Classical.propDecidable p)
theorem isB_yes {p : Prop} (h : p) : isB p = true := isB_iff.2 h
theorem isB_no {p : Prop} (h : ¬ p) : isB p = false := by
  cases hb : isB p with
  | false => rfl
  | true => exact absurd (isB_iff.1 hb) h
theorem bytes_eq {u v : ByteArray} (h : u.data.toList = v.data.toList) : u = v := by
  obtain ⟨⟨u⟩⟩ := u
  obtain ⟨⟨v⟩⟩ := v
  simp at h
  rw [h]
def SameX (e : Ex) : Prop := ∀ (f : Ex) (cs cs' : List Value) (w : World), ExIs w w.heap.size e cs → ExIs w w.heap.size f cs' → Calls Try.prog 6 #[.agg cs.toArray, .agg cs'.toArray] w fun r w' => r = .returned (.bool (isB (e = f))) ∧ Below w.heap.size w w'

set_option maxRecDepth 100000 in
theorem equalX_any {k a b c d k0 a0 b0 c0 d0 : Int} {t t0 : ByteArray} {ks ks' : List Ex} (ih : ∀ e ∈ ks, SameX e) {A A' : Option Addr} {cp cp' : Nat} {w : World} (h : ExIs w w.heap.size (.mk k a b c d t ks) (exCells k a b c d t A ks.length cp)) (h' : ExIs w w.heap.size (.mk k0 a0 b0 c0 d0 t0 ks') (exCells k0 a0 b0 c0 d0 t0 A' ks'.length cp')) :
    Calls Try.prog 18 #[.slice A ks.length cp, .slice A' ks'.length cp', .func (.func 6) #[] #[]] w fun r w' => r = .returned (.bool (isB (ks = ks'))) ∧ Below w.heap.size w w' := by
  have hl := h.len.2.2
  have hmx := hl.2.1
  have hmn := hl.1
  unfold maxLen at hmx
  have IH := Lib.hid ih
  have H1 := Lib.hid h
  have H2 := Lib.hid h'
  clear ih h h' hl
  by_cases hnn : ks.length = ks'.length
  · have HNN := Lib.hid hnn
    obtain ⟨n, hn⟩ : ∃ n, ks.length = n := ⟨_, rfl⟩
    have hn' : ks'.length = n := by omega
    rw [hn'] at H2 ⊢
    rw [hn] at hmn H1 ⊢
    clear hnn
    go_enter Try.func18, Try.ntmps18
    go_wp2
    go_loopw [7, 8, 9, 17] (fun _ _ _ i wr => ∃ j : Nat, j ≤ n ∧ i = .int .i64 j ∧ Hid (ks.take j = ks'.take j) ∧ Below w.heap.size w wr) (fun _ _ _ i _ => n - (intOf i).toNat)
    case atStart => exact ⟨0, by omega, rfl, rfl, Below.refl _ _⟩
    case round =>
      obtain ⟨j, hj, rfl, HR, hwr⟩ := hrel
      have hwz := hwr.size
      by_cases hjn : j < n
      · obtain ⟨ad, k1, a1, b1, c1, d1, t1, ks1, A1, cp1, rfl, hab, hej, hx, hS⟩ := H1.out.kid (j := j) (by omega)
        obtain ⟨ad', k2, a2, b2, c2, d2, t2, ks2, A2, cp2, rfl, hab', hej', hx', hS'⟩ := H2.out.kid (j := j) (by omega)
        have hk := fun (q : Addr) (hq : q.block = (ad.add (j * 7)).block) => hwr.cell (p := q) (by rw [hq, add_block]; omega)
        have y0 := (hk _ rfl).trans hS.c0
        have y1 := (hk ⟨_, _, none⟩ rfl).trans hS.c1
        have y2 := (hk ⟨_, _, none⟩ rfl).trans hS.c2
        have y3 := (hk ⟨_, _, none⟩ rfl).trans hS.c3
        have y4 := (hk ⟨_, _, none⟩ rfl).trans hS.c4
        have y5 := (hk ⟨_, _, none⟩ rfl).trans hS.c5
        have y6 := (hk ⟨_, _, none⟩ rfl).trans hS.c6
        have hk' := fun (q : Addr) (hq : q.block = (ad'.add (j * 7)).block) => hwr.cell (p := q) (by rw [hq, add_block]; omega)
        have x0 := (hk' _ rfl).trans hS'.c0
        have x1 := (hk' ⟨_, _, none⟩ rfl).trans hS'.c1
        have x2 := (hk' ⟨_, _, none⟩ rfl).trans hS'.c2
        have x3 := (hk' ⟨_, _, none⟩ rfl).trans hS'.c3
        have x4 := (hk' ⟨_, _, none⟩ rfl).trans hS'.c4
        have x5 := (hk' ⟨_, _, none⟩ rfl).trans hS'.c5
        have x6 := (hk' ⟨_, _, none⟩ rfl).trans hS'.c6
        have hcall : ∀ W : World, Below w.heap.size w W → Calls Try.prog 6 #[.agg #[.int .i64 k1, .int .u64 a1, .int .u64 b1, .int .u64 c1, .int .u64 d1, .string t1, .slice A1 ks1.length cp1], .agg #[.int .i64 k2, .int .u64 a2, .int .u64 b2, .int .u64 c2, .int .u64 d2, .string t2, .slice A2 ks2.length cp2]] W fun r w' => r = .returned (.bool (isB (Ex.mk k1 a1 b1 c1 d1 t1 ks1 = .mk k2 a2 b2 c2 d2 t2 ks2))) ∧ Below W.heap.size W w' := fun W hW =>
          IH.out _ (List.mem_of_getElem? hej) _ _ _ W (hx.grow hW) (hx'.grow hW)
        have HCall := Lib.hid hcall
        have HEJ := Lib.hid hej
        have HEJ' := Lib.hid hej'
        have hba : (ad.add (j * 7)).block < wr.heap.size := by rw [add_block]; omega
        have hba' : (ad'.add (j * 7)).block < wr.heap.size := by rw [add_block]; omega
        clear hcall hk hk' hS hS' hx hx' hej hej'
        by_cases heq : Ex.mk k1 a1 b1 c1 d1 t1 ks1 = .mk k2 a2 b2 c2 d2 t2 ks2
        · have HEQ := Lib.hid heq
          have hxx := isB_yes heq
          rw [hxx] at HCall
          clear heq hxx
          go_wp2_with fail
          refine (HCall.out _ (by repeat (first | exact Below.refl _ _ | assumption | refine Below.drew ?_ | refine below_drewN ?_ _ | refine Below.alloc ?_ (by first | omega | (simp; omega) | simp) _ | refine Below.setCell ?_ (by first | omega | (simp; omega) | simp) _))).mono ?_
          rintro e w2 ⟨rfl, hb2⟩
          have hw2 : Below w.heap.size w w2 := Below.trans (by repeat (first | exact Below.refl _ _ | assumption | refine Below.drew ?_ | refine below_drewN ?_ _ | refine Below.alloc ?_ (by first | omega | (simp; omega) | simp) _ | refine Below.setCell ?_ (by first | omega | (simp; omega) | simp) _)) (hb2.mono (by first | omega | (simp; omega) | simp))
          clear hb2
          go_wp2
          go_roundw
          case rel => exact ⟨j + 1, by omega, by go_num, by show _ = _; rw [take_succ_of HEJ.out, take_succ_of HEJ'.out, HR.out, HEQ.out], hw2⟩
          case measure => simp [intOf]; omega
        · have hne : ks ≠ ks' := fun e => heq (by have h1 := HEJ.out; rw [e, HEJ'.out] at h1; injection h1 with h1; exact h1.symm)
          have hxx := isB_no heq
          have hxy := isB_no hne
          rw [hxx] at HCall
          have HXY := Lib.hid hxy
          clear heq hxx hxy hne
          go_wp2_with fail
          refine (HCall.out _ (by repeat (first | exact Below.refl _ _ | assumption | refine Below.drew ?_ | refine below_drewN ?_ _ | refine Below.alloc ?_ (by first | omega | (simp; omega) | simp) _ | refine Below.setCell ?_ (by first | omega | (simp; omega) | simp) _))).mono ?_
          rintro e w2 ⟨rfl, hb2⟩
          have hw2 : Below w.heap.size w w2 := Below.trans (by repeat (first | exact Below.refl _ _ | assumption | refine Below.drew ?_ | refine below_drewN ?_ _ | refine Below.alloc ?_ (by first | omega | (simp; omega) | simp) _ | refine Below.setCell ?_ (by first | omega | (simp; omega) | simp) _)) (hb2.mono (by first | omega | (simp; omega) | simp))
          clear hb2
          go_wp2
          go_ret
          exact ⟨ret_bool HXY.out.symm, hw2⟩
      · obtain rfl : j = n := by omega
        have hxy : isB (ks = ks') = true := isB_yes (by have := HR.out; rwa [List.take_of_length_le (by omega), List.take_of_length_le (by omega)] at this)
        have HXY := Lib.hid hxy
        clear hxy
        go_wp2
        go_ret
        exact ⟨ret_bool HXY.out.symm, hwr⟩
  · have hxy : isB (ks = ks') = false := isB_no fun e => hnn (by rw [e])
    have hb : ((ks.length : Int) != (ks'.length : Int)) = true := by rw [bne_iff_ne]; omega
    rw [hxy]
    clear hxy hnn
    go_enter Try.func18, Try.ntmps18
    go_wp2
    go_ret
    exact ⟨rfl, Below.refl _ _⟩

set_option maxRecDepth 100000 in
set_option maxHeartbeats 4000000 in
theorem samex_any (e : Ex) : SameX e := by
  refine Ex.ind (P := SameX) ?_ e
  intro k a b c d t ks ih f cs cs' w he hf
  cases f with
  | mk k0 a0 b0 c0 d0 t0 ks0 =>
  obtain ⟨_, A, cp, rfl, -⟩ := he.shape
  obtain ⟨_, A0, cp0, rfl, -⟩ := hf.shape
  have hcall := fun (W : World) (hW : Below w.heap.size w W) => equalX_any (w := W) ih (he.grow hW) (hf.grow hW)
  have HCall := Lib.hid hcall
  clear hcall ih he hf
  have hq := fun w => run_same_set w a b c d a0 b0 c0 d0
  have ht := toList_eq_iff t t0
  unfold exCells
  by_cases h1 : k = k0
  rotate_left
  · have hk : (k == k0) = false := by rw [beq_eq_false_iff_ne]; exact h1
    rw [isB_no fun e => by injection e with e1; exact h1 e1]
    clear h1
    go_enter Try.func6, Try.ntmps6
    go_wp2
    go_ret
    exact ⟨rfl, (by repeat (first | exact Below.refl _ _ | assumption | refine Below.drew ?_ | refine below_drewN ?_ _ | refine Below.alloc ?_ (by first | omega | (simp; omega) | simp) _ | refine Below.setCell ?_ (by first | omega | (simp; omega) | simp) _))⟩
  subst h1
  by_cases h2 : a = a0 ∧ b = b0 ∧ c = c0 ∧ d = d0
  rotate_left
  · have hz : (a == a0 && (b == b0 && (c == c0 && d == d0))) = false := by
      rw [Bool.eq_false_iff]
      intro e
      simp at e
      exact h2 e
    rw [hz] at hq
    rw [isB_no fun e => by injection e with e1 e2 e3 e4 e5; exact h2 ⟨e2, e3, e4, e5⟩]
    clear h2 hz
    go_enter Try.func6, Try.ntmps6
    go_wp2
    go_ret
    exact ⟨rfl, (by repeat (first | exact Below.refl _ _ | assumption | refine Below.drew ?_ | refine below_drewN ?_ _ | refine Below.alloc ?_ (by first | omega | (simp; omega) | simp) _ | refine Below.setCell ?_ (by first | omega | (simp; omega) | simp) _))⟩
  obtain ⟨rfl, rfl, rfl, rfl⟩ := h2
  have hz : (a == a && (b == b && (c == c && d == d))) = true := by simp
  rw [hz] at hq
  by_cases h3 : t.data.toList = t0.data.toList
  rotate_left
  · rw [decide_eq_false h3] at ht
    rw [isB_no fun e => by injection e with e1 e2 e3 e4 e5 e6; exact h3 (by rw [e6])]
    clear h3 hz
    go_enter Try.func6, Try.ntmps6
    go_wp2
    go_ret
    exact ⟨rfl, (by repeat (first | exact Below.refl _ _ | assumption | refine Below.drew ?_ | refine below_drewN ?_ _ | refine Below.alloc ?_ (by first | omega | (simp; omega) | simp) _ | refine Below.setCell ?_ (by first | omega | (simp; omega) | simp) _))⟩
  rw [decide_eq_true h3] at ht
  have h4 := bytes_eq h3
  have hx : isB (Ex.mk k a b c d t ks = .mk k a b c d t0 ks0) = isB (ks = ks0) := by
    subst h4
    by_cases h5 : ks = ks0
    · rw [isB_yes h5, isB_yes (by rw [h5])]
    · rw [isB_no h5, isB_no fun e => by injection e with _ _ _ _ _ _ e7; exact h5 e7]
  rw [hx]
  generalize isB (ks = ks0) = x at HCall
  clear h3 hz h4 hx
  go_enter Try.func6, Try.ntmps6
  go_wp2_with fail
  refine (HCall.out _ (by repeat (first | exact Below.refl _ _ | assumption | refine Below.drew ?_ | refine below_drewN ?_ _ | refine Below.alloc ?_ (by first | omega | (simp; omega) | simp) _ | refine Below.setCell ?_ (by first | omega | (simp; omega) | simp) _))).mono ?_
  rintro e w2 ⟨rfl, hb2⟩
  have hw2 : Below w.heap.size w w2 := Below.trans (by repeat (first | exact Below.refl _ _ | assumption | refine Below.drew ?_ | refine below_drewN ?_ _ | refine Below.alloc ?_ (by first | omega | (simp; omega) | simp) _ | refine Below.setCell ?_ (by first | omega | (simp; omega) | simp) _)) (hb2.mono (by first | omega | (simp; omega) | simp)); have hzw2 := hw2.size; clear hb2
  go_wp2
  go_ret
  exact ⟨rfl, hw2⟩
end Go.Proofs.Ytndhbdbfjkmloaa
namespace Go.Proofs.Ytndhbdbfjkmloaa
open Go.RowKit

def refAX : Ex := .mk 4 0 0 0 0 ⟨#[97]⟩ []
theorem remark_whole : Whole [35, 32, 120, 10, 97, 32, 35] (.ok refAX []) :=
  .inr ⟨by decide +kernel, .ok refAX [], ⟨10, by kernel_rfl⟩, .inr ⟨refAX, [], rfl, .inl ⟨rfl, rfl⟩⟩⟩
theorem remark_parse : ParseR [35, 32, 120, 10, 97, 32, 35] (some refAX) 0 0 := .ok refAX [] (by decide) remark_whole (by decide +kernel)
theorem data_cat (s : ByteArray) : ((⟨#[32, 9, 35, 32, 40, 32, 10]⟩ : ByteArray) ++ s ++ (⟨#[10, 32, 35, 32, 39]⟩ : ByteArray)).data.toList = preR ++ (s.data.toList ++ sufR) := by
  simp [preR, sufR]
set_option maxRecDepth 100000 in
set_option maxHeartbeats 4000000 in
theorem walk_ReadBlanks (s : ByteArray) (hs : s.size ≤ 140737488351232) (w : World) :
    Calls Try.prog 3 #[.string s] w fun r w' => r = .returned (.bool true) ∧ Below w.heap.size w w' := by
  have HPS := Lib.hid (fun (s : ByteArray) (W : World) => parse_any s W)
  have HSL := Lib.hid (size_list s)
  have HDC := Lib.hid (data_cat s)
  have n1 : ¬ 9223372036854775807 < 7 + s.size := by omega
  have n2 : ¬ 9223372036854775807 < 7 + s.size + 5 := by omega
  go_enter Try.func3, Try.ntmps3
  go_wp2_with fail
  refine (HPS.out _ _).mono ?_
  rintro r w2 ⟨hb2, o, p, x, hP, k1, a1, b1, c1, d1, t1, ks1, A1, cp1, ho, rfl, hE1⟩
  obtain ⟨rfl, rfl, rfl⟩ := hP.uniq remark_parse
  unfold refAX at ho
  injection ho with o1 o2 o3 o4 o5 o6 o7
  subst o1 o2 o3 o4 o5 o6 o7
  have hb3 := hb2.alloc hb2.size (.cells #[.int .i64 4, .int .u64 0, .int .u64 0, .int .u64 0, .int .u64 0, .string ⟨#[97]⟩, .slice A1 0 cp1] 27)
  have hy3 := Blk.new w2 27 #[.int .i64 4, .int .u64 0, .int .u64 0, .int .u64 0, .int .u64 0, .string ⟨#[97]⟩, .slice A1 0 cp1]
  clear hP hE1 hb2
  go_upto_region 2 with fail
  generalize (w2.alloc (.cells #[.int .i64 4, .int .u64 0, .int .u64 0, .int .u64 0, .int .u64 0, .string ⟨#[97]⟩, .slice A1 0 cp1] 27)) = w3 at hb3 hy3 ⊢
  generalize w2.heap.size = yb at hy3 ⊢
  have y0 := hy3.cell 0
  go_wp2_with fail
  refine (HPS.out _ _).mono ?_
  rintro r w5 ⟨hb5', o, p, x, hP, k, a, b, c, d, t, ks, A, cp, ho, rfl, hE2⟩
  have hb5 := hb3.trans (hb5'.mono hb3.size)
  have hb6 := hb5.alloc hb5.size (.cells #[.int .i64 k, .int .u64 a, .int .u64 b, .int .u64 c, .int .u64 d, .string t, .slice A ks.length cp] 27)
  have hx6 := Blk.new w5 27 #[.int .i64 k, .int .u64 a, .int .u64 b, .int .u64 c, .int .u64 d, .string t, .slice A ks.length cp]
  have hE6 := hE2.allocR (.cells #[.int .i64 k, .int .u64 a, .int .u64 b, .int .u64 c, .int .u64 d, .string t, .slice A ks.length cp] 27)
  clear hE2 hb5' hb5 hb3 hy3 y0 ho
  go_upto_region 5 with fail
  have hs5 : w5.heap.size < (w5.alloc (.cells #[.int .i64 k, .int .u64 a, .int .u64 b, .int .u64 c, .int .u64 d, .string t, .slice A ks.length cp] 27)).heap.size := by simp
  generalize (w5.alloc (.cells #[.int .i64 k, .int .u64 a, .int .u64 b, .int .u64 c, .int .u64 d, .string t, .slice A ks.length cp] 27)) = w6 at hb6 hx6 hE6 hs5 ⊢
  generalize w5.heap.size = xb at hx6 hs5 hE6 ⊢
  have HE6 := Lib.hid hE6.is
  clear hE6
  go_wp2_with fail
  refine (HPS.out _ _).mono ?_
  rintro r w8 ⟨hb8', o', p', x', hP', k2, a2, b2, c2, d2, t2, ks2, A2, cp2, ho', rfl, hE8⟩
  rw [HDC.out] at hP'
  have hb8 := hb6.trans (hb8'.mono hb6.size)
  have hx8 := hx6.below hb8' hs5
  have hb9 := hb8.alloc hb8.size (.cells #[.int .i64 k2, .int .u64 a2, .int .u64 b2, .int .u64 c2, .int .u64 d2, .string t2, .slice A2 ks2.length cp2] 27)
  have hb69 := hb8'.alloc hb8'.size (.cells #[.int .i64 k2, .int .u64 a2, .int .u64 b2, .int .u64 c2, .int .u64 d2, .string t2, .slice A2 ks2.length cp2] 27)
  have hx9 := hx8.alloc (.cells #[.int .i64 k2, .int .u64 a2, .int .u64 b2, .int .u64 c2, .int .u64 d2, .string t2, .slice A2 ks2.length cp2] 27)
  have hy9 := Blk.new w8 27 #[.int .i64 k2, .int .u64 a2, .int .u64 b2, .int .u64 c2, .int .u64 d2, .string t2, .slice A2 ks2.length cp2]
  have hE9 := hE8.allocR (.cells #[.int .i64 k2, .int .u64 a2, .int .u64 b2, .int .u64 c2, .int .u64 d2, .string t2, .slice A2 ks2.length cp2] 27)
  have HPP : Hid (s.size ≤ 1900 → o' = o ∧ x' = x ∧ (x ≠ 4 ∨ p' = p + 7 ∨ (p = s.size ∧ p' = s.size + 12))) := fun hl => by
    have := blanks_plain (by rw [HSL.out]; exact hl) hP hP'
    rw [HSL.out] at this
    exact this
  have hpb : (p : Int) ≤ s.size := by
    have := parse_place hP
    rw [HSL.out] at this
    omega
  clear hE8 hb8' hb6 hx6 hb8 hx8 hP hP' ho'
  go_upto_region 6 with fail
  generalize (w8.alloc (.cells #[.int .i64 k2, .int .u64 a2, .int .u64 b2, .int .u64 c2, .int .u64 d2, .string t2, .slice A2 ks2.length cp2] 27)) = w9 at hb9 hb69 hx9 hy9 hE9 ⊢
  generalize w8.heap.size = yb2 at hy9 hE9 ⊢
  by_cases hl : s.size ≤ 1900
  · have hgt : ¬ (1900 : Int) < (s.size : Int) := by omega
    obtain ⟨ho, hx, hpp⟩ := HPP.out hl
    subst ho
    subst hx
    have x0 := hx9.cell 0
    have x1 := hx9.cell 1
    have x2 := hx9.cell 2
    have x3 := hx9.cell 3
    have x4 := hx9.cell 4
    have x5 := hx9.cell 5
    have x6 := hx9.cell 6
    have y0 := hy9.cell 0
    have y1 := hy9.cell 1
    have y2 := hy9.cell 2
    have y3 := hy9.cell 3
    have y4 := hy9.cell 4
    have y5 := hy9.cell 5
    have y6 := hy9.cell 6
    have hsm := samex_any (o'.getD zeroE) (o'.getD zeroE) _ _ w9 (HE6.out.grow hb69) hE9.is
    unfold exCells at hsm
    rw [show isB (o'.getD zeroE = o'.getD zeroE) = true from isB_yes rfl] at hsm
    have HSX := Lib.hid hsm
    have hxx : (x' != x') = false := by simp
    clear hsm hE9 HPP
    go_wp2_with fail
    refine HSX.out.mono ?_
    rintro r w10 ⟨rfl, hb10⟩
    have hbF := hb9.trans (hb10.mono hb9.size)
    clear HSX hx9 hy9 x0 x1 x2 x3 x4 x5 x6 y0 y1 y2 y3 y4 y5 y6 hb9 hb69 hb10
    rcases hpp with h4 | h7 | ⟨h8, h9⟩
    · have hx4 : (x' != 4) = true := by rw [bne_iff_ne]; exact h4
      go_wp2
      go_ret
      exact ⟨rfl, hbF⟩
    · by_cases h4 : x' = 4
      · subst h4
        have h77 : ((p' : Int) == (p : Int) + 7) = true := by rw [beq_iff_eq]; omega
        have hpb2 : (p : Int) + 7 ≤ 9223372036854775807 := by omega
        clear h7
        go_wp2
        go_ret
        exact ⟨rfl, hbF⟩
      · have hx4 : (x' != 4) = true := by rw [bne_iff_ne]; exact h4
        go_wp2
        go_ret
        exact ⟨rfl, hbF⟩
    · by_cases h4 : x' = 4
      · subst h4
        have h77 : ((p' : Int) == (p : Int) + 7) = false := by rw [beq_eq_false_iff_ne]; omega
        have h88 : ((p : Int) == (s.size : Int)) = true := by rw [beq_iff_eq]; omega
        have h99 : ((p' : Int) == (s.size : Int) + 12) = true := by rw [beq_iff_eq]; omega
        clear h8 h9
        go_wp2
        go_ret
        exact ⟨rfl, hbF⟩
      · have hx4 : (x' != 4) = true := by rw [bne_iff_ne]; exact h4
        go_wp2
        go_ret
        exact ⟨rfl, hbF⟩
  · have hgt : (1900 : Int) < (s.size : Int) := by omega
    clear hl HPP
    go_wp2
    go_ret
    exact ⟨rfl, hb9⟩
end Go.Proofs.Ytndhbdbfjkmloaa
namespace Go.Proofs.Ytndhbdbfjkmloaa.readBlanks
open Go.ChangeShapes Go.WideShapes Go.ChangeAt Go.RowKit
open Go.ChangeMaps (open_string shut_string)
set_option linter.unusedVariables false

theorem own : ownKnob Try.prog.godebug = none := by kernel_rfl
theorem laidOut : laidOutB Try.prog = true := by kernel_rfl

set_option maxRecDepth 100000 in
theorem lifted (os : Os) (started : os.Started) (H : Type) (enc : TypeId × Value → H) :
    ReturnsInHanded {} Try.checked os 3 .any (Rows.readBlanksSpec.pre6 enc Try.prog Try.f3 Rows.readBlanksRow.domain false) (Rows.readBlanksSpec.post enc Try.prog Try.f3 false true false false) := by
  refine returnsInHanded_of_change_sized (C := Try.checked) own started (by kernel_rfl) Try.func3
    (ChangeSpec.witness6 (enc := enc) (C := Try.checked) false ⟨#[], #[.string ByteArray.empty], []⟩ 8 (by kernel_rfl) (by kernel_rfl) (by kernel_rfl) (by kernel_rfl)) ?_
  intro W base args ds gs before hval0 hW hcnd hsz0 _
  have hval : ∀ (j : Nat) t v, Try.f3.params[j]? = some t → args[j]? = some v → Value.okWide Try.prog W .any base t v := hval0
  have hsz : (DataW.weightsEach Try.prog (Try.f3.params.toList ++ Rows.readBlanksSpec.plain.varTypes Try.prog) (ds ++ gs)).all (· ≤ reachBytes) = true := hsz0
  have hW' := hW
  obtain ⟨p, q, hA0, hV, rfl, hfz, hnd⟩ := hW
  have hA : DataW.TrodAll enc Try.prog W 0 (fun _ => true) true Try.f3.params.toList args.toList ds p := hA0
  rw [Try.params3] at hA hval hsz
  obtain ⟨v0, vs0, d0, ds0, p0, q0, hargs, rfl, rfl, h0, r0⟩ := trodAll_cons hA
  obtain ⟨rfl, rfl, rfl⟩ := trodAll_nil r0
  obtain rfl : args = #[v0] := by cases args; simp_all
  obtain ⟨rfl, rfl⟩ := trodVars_none hV
  have k0 := h0
  have lt0 : ∀ x ∈ p0, x.block < W.heap.size := by obtain ⟨m, hm⟩ := k0; exact DataW.trod_lt m _ _ _ hm
  obtain ⟨s0, rfl, rfl, rfl, n0⟩ := open_string Try.underlying9 (hval 0 9 v0 rfl rfl) h0
  have w0 : s0.size ≤ 140737488351232 := by have := sized_string hsz (j := 0) (t := 9) rfl rfl; simpa [reachBytes] using this
  clear hA0 hval0
  refine (walk_ReadBlanks s0 w0 W).mono fun e W' ⟨he, bel⟩ => ?_
  subst he
  exact ⟨_, rfl, _, _, _, [], _, [], hW', trodAll_mk1 (shut_bool Try.underlying4 _), (trodAll_cons_mk (Below.trod laidOut (by kernel_rfl) (of_decide_eq_true (by kernel_rfl)) k0 bel lt0) trodAll_mk0), rfl, bel.frame _, fun h => by cases h⟩

theorem over : Rows.readBlanksRow.holds Try.pinned (OpenSpec.ofChange Rows.readBlanksSpec) :=
  OpenClaim.holds_of_wide 3 Try.f3 rfl rfl rfl rfl rfl rfl rfl ⟨rfl, rfl, rfl, rfl, rfl⟩ rfl rfl rfl rfl rfl (by kernel_rfl) Try.func3 (by kernel_rfl)
    (of_decide_eq_true (by kernel_rfl)) (by unfold Func.isWrapper; first | (rw [if_pos (by decide +kernel)]; kernel_rfl) | (rw [if_neg (by decide +kernel)]; exact ⟨rfl, rfl⟩))
    (fun os started H enc _ => lifted os started H enc)

theorem proved : Rows.ReadBlanksSaid := over
#print axioms proved
end Go.Proofs.Ytndhbdbfjkmloaa.readBlanks
