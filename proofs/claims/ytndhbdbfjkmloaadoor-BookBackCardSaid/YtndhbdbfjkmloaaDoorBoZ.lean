/- Books, walks: book.Print; cases are compared; the laws BookBack and BookAgain. -/
import Derived.Test.YtndhbdbfjkmloaaDoorBoY
import Derived.Laws.StructEq
import Derived.BigQuiet
import Derived.Deep.QuietTactic
namespace Go.Proofs.YtndhbdbfjkmloaaDoor
open Go.RowKit

theorem litL_len (l : List UInt8) : (litL l).length ≤ 4 * l.length + 2 := by
  have := encAll_len false l
  unfold litL
  simp
  omega
theorem lineC_len {c : Cs} (h : fitC c = 0) : (lineC c).length ≤ 270 := by
  have h60 := fit_60x h
  have h1 := litL_len c.2.2.data.toList
  rw [size_list] at h1
  have h2 : (headC c.1 c.2.1).length ≤ 17 := by
    obtain ⟨k, m, t⟩ := c
    unfold headC
    simp only
    split
    · decide
    · split
      · decide
      · rcases fit_kindx h with ⟨rfl, _⟩ | ⟨rfl, _⟩ | ⟨_, h0, h1⟩
        · contradiction
        · contradiction
        · have := itoa_nine h0 (by omega)
          simp [wdP]
          omega
  unfold lineC
  rw [List.length_append]
  omega
theorem bookL_len : ∀ {l : List Cs}, (∀ c ∈ l, fitC c = 0) → (bookL l).length ≤ 271 * l.length
  | [], _ => by simp [bookL]
  | c :: l, h => by
    have h1 := lineC_len (h c (by simp))
    have h2 := bookL_len (l := l) fun x hx => h x (by simp [hx])
    rw [show bookL (c :: l) = lineC c ++ [10] ++ bookL l by simp [bookL], List.length_append, List.length_append]
    simp only [List.length_cons, List.length_nil]
    omega
theorem bytes_ofB {u : ByteArray} {l : List UInt8} (h : u.data.toList = l) : u = ⟨l.toArray⟩ := by
  obtain ⟨u⟩ := u
  congr 1
  rw [← h]
/-- what book.Print answers -/
def BPrV (l : List Cs) : Value := if bchkC l = 0 then .tuple #[.string ⟨(bookL l).toArray⟩, .int .i64 0] else .tuple #[.string ⟨#[]⟩, .int .i64 (bchkC l)]
set_option maxRecDepth 100000 in
set_option maxHeartbeats 8000000 in
theorem bprint_any {l : List Cs} {A : Option Addr} {n c : Nat} {w : World} (h : Reads w w.heap.size 3 A n (caseC l)) (hl : l.length = n) (hT : LibP w) : Calls Tryd.prog 20 #[.slice A n c] w fun e w' => e = .returned (BPrV l) ∧ Below w.heap.size w w' := by
  have hck := bcheck_any (c := c) h hl
  unfold BPrV
  by_cases h0 : bchkC l = 0
  · have hft : (∀ x ∈ l, fitC x = 0) ∧ n ≤ 40 := by
      unfold bchkC at h0
      split at h0
      · cases h0
      · exact ⟨chk_fitx h0, by omega⟩
    rw [h0] at hck
    rw [if_pos h0]
    have HCK := Lib.hid hck
    have HFT := Lib.hid hft.1
    have hn40 := hft.2
    have HL := Lib.hid hl
    have HR := Lib.hid h
    have HE : Hid (∀ (u : ByteArray) (W : World), u.data.toList = bookL l → Below w.heap.size w W → ((Ending.returned (.tuple #[.string u, .int .i64 0])) = .returned (.tuple #[.string ⟨(bookL l).toArray⟩, .int .i64 0]) ∧ Below w.heap.size w W)) := fun u W hu hW => ⟨by rw [bytes_ofB hu], hW⟩
    have HDC := Lib.hid (fun (z : Int) (hz : I64 z) (W : World) (hW : Below w.heap.size w W) => qdec_all z hz W (hT.on hW).pow)
    have HLI := Lib.hid (fun (t : ByteArray) (ht : t.size ≤ 60) (W : World) => lit_any t W (by omega))
    generalize hQ : (fun e w' => e = Ending.returned (.tuple #[.string ⟨(bookL l).toArray⟩, .int .i64 0]) ∧ Below w.heap.size w w') = Q
    have HQ : Hid (∀ (u : ByteArray) (W : World), u.data.toList = bookL l → Below w.heap.size w W → Q (.returned (.tuple #[.string u, .int .i64 0])) W) := fun u W hu hW => by rw [← hQ]; exact HE.out u W hu hW
    clear hck hft h hl hT h0 hQ HE
    go_enter Tryd.func20, Tryd.ntmps20
    go_wp2_with fail
    refine HCK.out.mono ?_
    rintro e w1 ⟨rfl, hb1⟩
    go_wp2
    go_loopw [5, 7, 15] (fun o _ i wr => ∃ (j : Nat) (u : ByteArray), j ≤ n ∧ i = .int .i64 j ∧ o = .string u ∧ u.size ≤ 271 * j ∧ Hid (u.data.toList = bookL (l.take j)) ∧ Below w.heap.size w wr) (fun _ _ i _ => n - (intOf i).toNat)
    case atStart => exact ⟨0, ⟨#[]⟩, by omega, rfl, rfl, by simp [ByteArray.size], rfl, hb1⟩
    case round =>
      obtain ⟨j, u, hj, rfl, rfl, hus, HU, hbr⟩ := hrel
      have hzr := hbr.size
      by_cases hjn : j < n
      · obtain ⟨ad, k, m, t, rfl, hab, hg, e0, e1, e2⟩ := reads_case (HR.out.below hbr) hjn
        have hfx := HFT.out _ (List.mem_of_getElem? hg)
        have ht60 := fit_60x hfx
        simp only at ht60
        have hll := lineC_len hfx
        have had : ad.block < wr.heap.size := by omega
        have hji : (j : Int) < (n : Int) := by omega
        have HNX : Hid (∀ (v : ByteArray), v.data.toList = u.data.toList ++ (headC k m ++ litL t.data.toList ++ [10]) → v.data.toList = bookL (l.take (j + 1)) ∧ v.size ≤ 271 * (j + 1)) := fun v hv => by
          have h1 : v.data.toList = bookL (l.take (j + 1)) := by rw [hv, HU.out, take_succ_of hg, bookL_snoc]; rfl
          refine ⟨h1, ?_⟩
          have h2 := bookL_len (l := l.take (j + 1)) fun x hx => HFT.out x (List.mem_of_mem_take hx)
          rw [← h1, size_list, List.length_take] at h2
          have : min (j + 1) l.length ≤ j + 1 := Nat.min_le_left _ _
          calc v.size ≤ _ := h2
            _ ≤ _ := Nat.mul_le_mul_left _ this
        have hk := fit_kindx hfx
        have hll2 : (litL t.data.toList).length ≤ 242 := by have := litL_len t.data.toList; rw [size_list] at this; omega
        clear hfx hg hll HU
        rcases hk with ⟨rfl, rfl⟩ | ⟨rfl, rfl⟩ | ⟨rfl, hm0, hm60⟩
        · skip
          go_wp2_with fail
          refine (HLI.out t ht60 _).mono ?_
          rintro e w3 ⟨⟨L, rfl, hL⟩, hb3⟩
          have hb4 := (hbr.alloc hzr _).trans (hb3.mono (by simp; omega))
          have hLs : L.size ≤ 242 := by rw [← size_list, hL]; exact hll2
          have hv := HNX.out ((u ++ ⟨#[97, 99, 99, 101, 112, 116, 32]⟩) ++ (L ++ ⟨#[10]⟩)) (by rw [app_data, app_data, app_data, hL]; unfold headC; simp [wdA])
          have HV := Lib.hid hv
          clear hv hL HNX e0 e1 e2
          go_wp2
          go_roundw
          case rel => exact ⟨j + 1, _, by omega, by go_num, rfl, HV.out.2, HV.out.1, hb4⟩
          case measure => simp [intOf]; omega
        · skip
          go_wp2_with fail
          refine (HLI.out t ht60 _).mono ?_
          rintro e w3 ⟨⟨L, rfl, hL⟩, hb3⟩
          have hb4 := (hbr.alloc hzr _).trans (hb3.mono (by simp; omega))
          have hLs : L.size ≤ 242 := by rw [← size_list, hL]; exact hll2
          have hv := HNX.out ((u ++ ⟨#[114, 101, 106, 101, 99, 116, 32]⟩) ++ (L ++ ⟨#[10]⟩)) (by rw [app_data, app_data, app_data, hL]; unfold headC; simp [wdR])
          have HV := Lib.hid hv
          clear hv hL HNX e0 e1 e2
          go_wp2
          go_roundw
          case rel => exact ⟨j + 1, _, by omega, by go_num, rfl, HV.out.2, HV.out.1, hb4⟩
          case measure => simp [intOf]; omega
        · have hdz := fun W hW => HDC.out m ⟨by omega, by omega⟩ W hW
          have hd9 : (itoaB m).size ≤ 9 := by rw [itoaB_size]; exact itoa_nine hm0 (by omega)
          have HDA : Hid ((itoaB m).data.toList = Lib.itoa m) := rfl
          generalize itoaB m = D at hdz hd9 HDA
          have HDZ := Lib.hid hdz
          clear hdz
          have hbx := hbr.alloc hzr (.cells #[.int .i64 4, .int .i64 m, .string t] 49)
          have hxx := Blk.new wr 49 #[.int .i64 4, .int .i64 m, .string t]
          go_upto_region 8 with fail
          generalize (wr.alloc (.cells #[.int .i64 4, .int .i64 m, .string t] 49)) = wx at hbx hxx ⊢
          generalize wr.heap.size = xb at hxx ⊢
          have q0 := hxx.cell 0
          have q1 := hxx.cell 1
          have q2 := hxx.cell 2
          clear e0 e1 e2
          go_wp2_with fail
          refine (HDZ.out _ hbx).mono ?_
          rintro e w2 ⟨rfl, hb2⟩
          have hx2 := hxx.below hb2 hxx.lt
          have hbx2 := hbx.trans (hb2.mono hbx.size)
          have q0 := hx2.cell 0
          have q1 := hx2.cell 1
          have q2 := hx2.cell 2
          clear hb2 hbx hxx
          go_wp2_with fail
          refine (HLI.out t ht60 _).mono ?_
          rintro e w3 ⟨⟨L, rfl, hL⟩, hb3⟩
          have hb4 := hbx2.trans (hb3.mono hbx2.size)
          have hLs : L.size ≤ 242 := by rw [← size_list, hL]; exact hll2
          have hv := HNX.out ((u ++ ((⟨#[112, 114, 101, 102, 105, 120, 32]⟩ ++ D) ++ ⟨#[32]⟩)) ++ (L ++ ⟨#[10]⟩)) (by rw [app_data, app_data, app_data, app_data, app_data, hL, HDA.out]; unfold headC; simp [wdP])
          have HV := Lib.hid hv
          clear hv hL HNX q0 q1 q2 hx2
          go_wp2
          go_roundw
          case rel => exact ⟨j + 1, _, by omega, by go_num, rfl, HV.out.2, HV.out.1, hb4⟩
          case measure => simp [intOf]; omega
      · obtain rfl : j = n := by omega
        have HU2 : Hid (u.data.toList = bookL l) := by have := HU.out; rw [List.take_of_length_le (by rw [HL.out]; omega)] at this; exact this
        go_wp2
        exact HQ.out _ _ HU2.out hbr
  · rw [if_neg h0]
    have HCK := Lib.hid hck
    have hne : (bchkC l != 0) = true := bne_iff_ne.2 h0
    generalize bchkC l = x at hne HCK
    clear hck h0 hT h hl
    go_enter Tryd.func20, Tryd.ntmps20
    go_wp2_with fail
    refine HCK.out.mono ?_
    rintro e w1 ⟨rfl, hb1⟩
    go_wp2
    go_ret2
    exact ⟨rfl, hb1⟩

theorem bytes_eqB (s s' : ByteArray) : s.data.toList = s'.data.toList ↔ s = s' := ⟨fun h => by obtain ⟨s⟩ := s; obtain ⟨s'⟩ := s'; exact congrArg ByteArray.mk (Array.toList_inj.1 h), fun h => by rw [h]⟩
theorem run_same_case (w : World) (k m k' m' : Int) (s s' : ByteArray) : (Op.equalIn 10000 49 (.agg #[.int .i64 k, .int .i64 m, .string s]) (.agg #[.int .i64 k', .int .i64 m', .string s'])).run Tryd.prog w = .ok (decide (((k, m, s) : Cs) = (k', m', s'))) w := by
  have u4 := Tryd.underlying3
  have a4 := Tryd.isAgg3
  have z4 := Tryd.sizeOf3
  have u3 := Tryd.underlying9
  have a3 := Tryd.isAgg9
  have z3 := Tryd.sizeOf9
  have hS : Tryd.prog.underlying 49 = some (.struct (Tryd.prog.fieldsOf 49)) := by kernel_rfl
  have hp : Tryd.prog.stoodInHeld 49 = false := by kernel_rfl
  have hq := bytes_eqB s s'
  have ht : s.toList = s'.toList ↔ s = s' := by rw [ByteArray.toList_eq, ByteArray.toList_eq]; exact hq
  rw [show (10000 : Nat) = 9999 + 1 from rfl, run_equalIn_agg w 9999 49 _ _ hS hp]
  simp only [Program.fieldsOf, Tryd.underlying49]
  go_simp
  by_cases h1 : k = k' <;> by_cases h2 : m = m' <;> by_cases h3 : s = s' <;> simp_all
set_option maxRecDepth 100000 in
theorem equalC_any (A A' : Option Addr) (n c n' c' : Nat) (l l' : List Cs) (B B' : Nat) (w : World) (h : Reads w B 3 A n (caseC l)) (h' : Reads w B' 3 A' n' (caseC l')) (hn : n ≤ 1000) (hl : l.length = n) (hl' : l'.length = n') :
    Calls Tryd.prog 23 #[.slice A n c, .slice A' n' c'] w fun e w' => e = .returned (.bool (decide (l = l'))) ∧ ∃ d, w' = w.drewN d := by
  have HL := Lib.hid hl
  have HL' := Lib.hid hl'
  clear hl hl'
  by_cases hnn : n = n'
  · subst hnn
    go_enter Tryd.func23, Tryd.ntmps23
    go_wp2
    go_loopw [5, 13] (fun _ i wr => ∃ j d : Nat, j ≤ n ∧ i = .int .i64 j ∧ Hid (l.take j = l'.take j) ∧ wr = w.drewN d) (fun _ i _ => n - (intOf i).toNat)
    case atStart => exact ⟨0, 0, by omega, rfl, rfl, rfl⟩
    case round =>
      obtain ⟨j, d, hj, rfl, HR, rfl⟩ := hrel
      by_cases hjn : j < n
      · obtain ⟨ad, k, m, t, rfl, hab, hg, e0, e1, e2⟩ := reads_case h hjn
        obtain ⟨ad', k', m', t', rfl, hab', hg', e0', e1', e2'⟩ := reads_case h' hjn
        have hq := fun w => run_same_case w k m k' m' t t'
        have HG := Lib.hid hg
        have HG' := Lib.hid hg'
        clear hg hg'
        by_cases heq : ((k, m, t) : Cs) = (k', m', t')
        · injection heq with h1 h2
          injection h2 with h2 h3
          subst h1 h2 h3
          simp only [decide_true] at hq
          go_wp2
          go_quiet (fail)
          go_wp2
          go_roundw
          case rel => exact ⟨j + 1, _, by omega, by go_num, by show _ = _; rw [take_succ_of HG.out, take_succ_of HG'.out, HR.out], rfl⟩
          case measure => simp [intOf]; omega
        · have HF : Hid (decide (l = l') = false) := by
            show _ = _
            rw [decide_eq_false_iff_not]
            rintro rfl
            have := HG.out.symm.trans HG'.out
            injection this with this
            exact heq this
          rw [decide_eq_false heq] at hq
          clear heq
          go_wp2
          go_quiet (fail)
          go_wp2
          go_ret
          exact ⟨ret_bool HF.out.symm, d + nq, by first | rfl | simp [World.drewN, Nat.add_assoc] | rw [World.drewN_drewN]⟩
      · obtain rfl : j = n := by omega
        have HF : Hid (decide (l = l') = true) := by
          show _ = _
          have h1 := HR.out
          rw [List.take_of_length_le (by rw [HL.out]; omega), List.take_of_length_le (by rw [HL'.out]; omega)] at h1
          exact decide_eq_true h1
        go_wp2
        go_ret
        exact ⟨ret_bool HF.out.symm, _, rfl⟩
  · have HF : Hid (decide (l = l') = false) := by
      show _ = _
      rw [decide_eq_false_iff_not]
      rintro rfl
      exact hnn (HL.out.symm.trans HL'.out)
    have hb : ((n : Int) != (n' : Int)) = true := by rw [bne_iff_ne]; omega
    go_enter Tryd.func23, Tryd.ntmps23
    go_wp2
    go_ret
    exact ⟨ret_bool HF.out.symm, 0, rfl⟩
end Go.Proofs.YtndhbdbfjkmloaaDoor
