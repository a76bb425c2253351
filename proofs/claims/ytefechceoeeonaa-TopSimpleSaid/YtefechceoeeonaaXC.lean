/- chaffkeep's Within, small and whole. -/
import Derived.Test.YtefechceoeeonaaPkV
import Derived.Test.YtefechceoeeonaaDfA
import Derived.Test.YtefechceoeeonaaXA
import Derived.Test.YtefechceoeeonaaKnP
import Derived.Test.YtefechceoeeonaaSiS
import Derived.Test.YtefechceoeeonaaKnC
import Derived.Test.YtefechceoeeonaaSwG
namespace Go.Proofs.Ytefechceoeeonaa
open Go.RowKit

/-- what Within answers -/
def wiN (k : Int) (n : Nat) : Nat := ((k % 18446744073709551616) % n).toNat
theorem wiN_lt (k : Int) {n : Nat} (h : 0 < n) : wiN k n < n := by
  unfold wiN
  have := Int.emod_lt_of_pos (k % 18446744073709551616) (show (0 : Int) < n by omega)
  omega
set_option maxRecDepth 100000 in
theorem within_any (k : Int) (n : Nat) (h1 : 0 < n) (h2 : n < 9223372036854775807) (w : World) : Calls Try.prog 27 #[.int .i64 k, .int .i64 n] w fun e w' => e = .returned (.int .i64 (wiN k n)) ∧ Below w.heap.size w w' := by
  have hlt := wiN_lt k h1
  have hw1 : IntKind.u64.wrap k = k % 18446744073709551616 := by rw [IntKind.wrap_u64]
  have hw2 : IntKind.u64.wrap (n : Int) = (n : Int) := by rw [IntKind.wrap_u64]; omega
  have hk0 : 0 ≤ k % 18446744073709551616 := Int.emod_nonneg _ (by omega)
  have hr : (k % 18446744073709551616).tmod (n : Int) = (wiN k n : Int) := by
    rw [Int.tmod_eq_emod_of_nonneg hk0]
    unfold wiN
    have := Int.emod_nonneg (k % 18446744073709551616) (show (n : Int) ≠ 0 by omega)
    omega
  generalize wiN k n = j at hlt hr ⊢
  generalize k % 18446744073709551616 = y at hw1 hk0 hr
  have hn0 : ((n : Int) == 0) = false := by rw [beq_eq_false_iff_ne]; omega
  have hn1 : ¬ ((n : Int) = 0) := by omega
  have hw3 : IntKind.i64.wrap (j : Int) = (j : Int) := wrap_i64 _ (by omega) (by omega)
  have hw4 : IntKind.u64.wrap (j : Int) = (j : Int) := by rw [IntKind.wrap_u64]; omega
  go_enter Try.func27, Try.ntmps27
  go_wp2
  go_ret
  exact ⟨by simp_all, (by repeat (first | exact Below.refl _ _ | assumption | refine Below.drew ?_ | refine below_drewN ?_ _ | refine Below.alloc ?_ (by first | omega | (simp; omega) | simp) _ | refine Below.setCell ?_ (by first | omega | (simp; omega) | simp) _))⟩
theorem slice_to (s : ByteArray) (k : IntKind) (r : Nat) (j : Int) (hj : j = r) (h2 : r ≤ s.size) (w : World) :
    (Instr.slice 9 (.string s) none (some (.int k j)) none).run Try.prog w = .ok (.string (s.extract 0 r)) w := by
  subst hj
  have hu := Try.underlying9
  simp [Instr.slice, run_underlying hu, Instr.sliceBounds, go_sem, h2]
/-- at most three bytes of an alphabet -/
def smA (a : ByteArray) : ByteArray := a.extract 0 (min a.size 3)
theorem smA_size (a : ByteArray) : (smA a).size ≤ 3 := by simp [smA]; omega
end Go.Proofs.Ytefechceoeeonaa

/- Plain: made simpler, or with fewer kinds, a grammar accepts the same texts. -/
namespace Go.Proofs.Ytefechceoeeonaa
open Go.RowKit

theorem acc_like {g h : List Rl} {s : ByteArray} (hl : lookG h s = lookG g s) (ho : lookG g s = 0 → outG h s = outG g s) : accG g s = accG h s := by
  unfold accG
  rw [hl]
  by_cases h0 : lookG g s = 0
  · rw [ho h0]
  · rw [decide_eq_false h0, Bool.false_and, Bool.false_and]
theorem acc_sim {g : List Rl} (W : WellG g) (s : ByteArray) : accG g s = accG (simpG g) s := by
  obtain ⟨E, -⟩ := simp_end W
  refine acc_like (by unfold lookG; rw [well_yes W, well_yes E.well]) fun _ => ?_
  obtain ⟨r, hr⟩ : ∃ r, g[0]? = some r := ⟨_, List.getElem?_eq_getElem W.right.pos⟩
  obtain ⟨r', h1, -, h3⟩ := E.at_ 0 r hr
  obtain ⟨n, o, he⟩ := ends (s := s.data.toList) E.well (p := 0) (by omega) (E.well.good (List.mem_of_getElem? h1))
  rw [outG_is h1 ⟨n, he⟩, outG_is hr (h3 _ 0 o (by omega) ⟨n, he⟩)]
theorem acc_ker {g : List Rl} (W : WellG g) (hc : checkG (kerG g) = 0) (s : ByteArray) : accG g s = accG (kerG g) s := by
  have h0 := check_of W.right
  refine acc_like (look_ker h0 hc s) fun _ => ?_
  obtain ⟨r, hr⟩ : ∃ r, g[0]? = some r := ⟨_, List.getElem?_eq_getElem W.right.pos⟩
  obtain ⟨n, o, he⟩ := ends (s := s.data.toList) W (p := 0) (by omega) (W.good (List.mem_of_getElem? hr))
  have h1 : (kerG g)[0]? = some (r.1, kerE r.2) := by rw [ker_at, hr]; rfl
  rw [outG_is hr ⟨n, he⟩, outG_is h1 (sem_ker W.right.rt (W.right.rt r (List.mem_of_getElem? hr)) ⟨n, he⟩)]
theorem look_sim' {g : List Rl} {a : ByteArray} {n : Int} (h : LookOk g a n) : LookOk (simpG g) a n := by
  obtain ⟨E, -⟩ := simp_end (well_of h.1)
  exact ⟨by rw [well_yes E.well], h.2⟩
theorem look_ker' {g : List Rl} {a : ByteArray} {n : Int} (h : LookOk g a n) (hc : checkG (kerG g) = 0) : LookOk (kerG g) a n :=
  ⟨by rw [well_ker (check_of (well_of h.1).right) hc]; exact h.1, h.2⟩
/-- what is not told apart is not found -/
theorem least_no {g h : List Rl} {a : ByteArray} {n : Int} {w w' : World} {e : Ending} (hq : LeastQ g h a n w e w') (h1 : LookOk g a n) (h2 : LookOk h a n) (h3 : ∀ s, accG g s = accG h s) :
    Below w.heap.size w w' ∧ e = .returned (.tuple #[.string ⟨#[]⟩, .int .i64 0, .int .i64 12]) := by
  obtain ⟨hb, h | h | h⟩ := hq
  · exact absurd ⟨h1, h2⟩ h.1
  · exact ⟨hb, h.2.2⟩
  · obtain ⟨_, j, s, _, _, h4, _⟩ := h
    rw [← h3 s] at h4
    cases hs : accG g s <;> rw [hs] at h4 <;> cases h4
theorem x_begun : lookG xG ⟨#[120]⟩ = 0 ∧ accG xG ⟨#[120]⟩ = true := ⟨look_of x_well (by decide), x_acc _ (by decide) (o := some 1) (by decide +kernel)⟩
end Go.Proofs.Ytefechceoeeonaa

/- The walk of the law TopSimple. -/
namespace Go.Proofs.Ytefechceoeeonaa
open Go.RowKit

set_option maxRecDepth 100000 in
theorem smallT_any (a : ByteArray) (n : Int) (w : World) : Calls Try.prog 28 #[.string a, .int .i64 n] w fun e w' => e = .returned (.tuple #[.string (smA a), .int .i64 (wiN n 5)]) ∧ Below w.heap.size w w' := by
  have hwi := fun W => within_any n 5 (by decide) (by decide) W
  have HW := Lib.hid hwi
  clear hwi
  generalize wiN n 5 = y at HW ⊢
  rcases Nat.lt_or_ge 3 a.size with h3 | h3
  case' inl =>
    have hx : (3 : Int) < (a.size : Int) := by omega
    have hs := fun W => slice_to a .i64 3 3 rfl (by omega) W
    rw [show smA a = a.extract 0 3 by unfold smA; rw [Nat.min_eq_right (by omega)]]
  case' inr =>
    have hx : ((3 : Int) < (a.size : Int)) = False := by simp; omega
    have hs := fun W => slice_to a .i64 a.size a.size rfl (by omega) W
    rw [show smA a = a by unfold smA; rw [Nat.min_eq_left (by omega)]; simp]
  all_goals
    go_enter Try.func28, Try.ntmps28
    go_wp2_with fail
    refine wp_region_q (fun W => Below w.heap.size w W) (by kernel_rfl) (by kernel_rfl) (Below.refl _ _).drew ?_
    repeat
      (first | ((with_reducible apply QW.free rfl); · (intro W hW; go_simp; first | rfl | (go_at_call 27; refine (HW.out W).mono ?_; exact fun e w' h => ⟨h.1, hW.trans (h.2.mono hW.size)⟩))) | ((with_reducible apply QW.skip rfl); · (first | exact ⟨_, _, rfl, rfl, .inl rfl⟩ | exact ⟨_, _, rfl, rfl, .inr rfl⟩)) | ((with_reducible apply QW.take rfl); (· exact ⟨_, rfl, rfl⟩); (· (intro W hW; go_simp; first | rfl | (go_at_call 27; refine (HW.out W).mono ?_; exact fun e w' h => ⟨h.1, hW.trans (h.2.mono hW.size)⟩))))); (try simp only [Act.put, List.setIfInBounds_toArray, List.set_cons_zero, List.set_cons_succ])
    refine QW.nil ?_
    intro w1 h1
    go_wp2
    go_ret2
    exact ⟨rfl, h1⟩
set_option maxRecDepth 100000 in
theorem topx_any (w : World) : Calls Try.prog 60 #[] w fun e' w' => ∃ b, e' = .returned (.agg #[.slice (some ⟨b, 0, none⟩) 1 1]) ∧ GrIs w' w'.heap.size xG (some ⟨b, 0, none⟩) 1 (fun _ => exCells 3 0 0 0 0 ⟨#[120]⟩ none 0 0) ∧ Below w.heap.size w w' := by
  go_enter Try.func60, Try.ntmps60
  go_wp2
  refine bodyPost_ret (v := .agg #[.slice (some ⟨w.heap.size + 1, 0, none⟩) 1 1]) (by simp [results, Try.results60, go_sem]) rfl ⟨w.heap.size + 1, rfl, gr_one (cs := #[.string nameA, .int .i64 3, .int .u64 0, .int .u64 0, .int .u64 0, .int .u64 0, .string ⟨#[120]⟩, .slice none 0 0]) (by decide) (litE_is _ ⟨#[120]⟩ (by decide)) (blk_at (by simp)) rfl, (by repeat (first | exact Below.refl _ _ | assumption | refine Below.drew ?_ | refine below_drewN ?_ _ | refine Below.alloc ?_ (by first | omega | (simp; omega) | simp) _ | refine Below.setCell ?_ (by first | omega | (simp; omega) | simp) _))⟩
set_option maxRecDepth 100000 in
theorem begun_any (w : World) : Calls Try.prog 29 #[] w fun e w' => e = .returned (.bool true) ∧ Below w.heap.size w w' := by
  have hx := fun W => topx_any W
  have HX := Lib.hid hx
  clear hx
  go_enter Try.func29, Try.ntmps29
  go_wp2_with fail
  refine (HX.out _).mono ?_
  rintro e w1 ⟨b, rfl, hG, hb1⟩
  have hac := acc_any hG (wf_g1 (wf_lit _)) ⟨#[120]⟩
  rw [show accG xG ⟨#[120]⟩ = true from x_begun.2, show lookG xG ⟨#[120]⟩ = 0 from x_begun.1] at hac
  have HA := Lib.hid hac
  clear hac hG
  go_wp2_with fail
  refine HA.out.mono ?_
  rintro e w2 ⟨rfl, hb2⟩
  have hw2 := hb1.trans (hb2.mono hb1.size)
  go_wp2
  go_ret
  exact ⟨rfl, hw2⟩
set_option maxRecDepth 100000 in
theorem right_any {g : List Rl} {A : Option Addr} {cp : Nat} {row : Nat → List Value} {w : World} (h : GrIs w w.heap.size g A cp row) (a : ByteArray) (n : Int) (ha : a.size ≤ 140737488351232) (hn : I64 n) :
    Calls Try.prog 30 #[.agg #[.slice A g.length cp], .string a, .int .i64 n] w fun e w' => ∃ b, e = .returned (.bool b) ∧ (b = true ↔ LookOk g a n) ∧ Below w.heap.size w w' := by
  have hl := fun W (hW : Below w.heap.size w W) => llook_any (h.grow hW) a n ha hn
  have HL := Lib.hid hl
  clear hl h
  go_enter Try.func30, Try.ntmps30
  go_wp2_with fail
  refine (HL.out _ (by repeat (first | exact Below.refl _ _ | assumption | refine Below.drew ?_ | refine below_drewN ?_ _ | refine Below.alloc ?_ (by first | omega | (simp; omega) | simp) _ | refine Below.setCell ?_ (by first | omega | (simp; omega) | simp) _))).mono ?_
  rintro e w1 ⟨⟨x, rfl, hx, -⟩, hb1⟩
  have hw1 : Below w.heap.size w w1 := ((Below.refl _ w).alloc (Nat.le_refl _) _).trans (hb1.mono (by first | omega | (simp; omega) | simp))
  have HX := Lib.hid hx
  clear hx hb1
  by_cases h0 : x = 0
  · have hxb : (x == 0) = true := by rw [beq_iff_eq]; exact h0
    have HY := Lib.hid (HX.out.1 h0)
    clear h0 HX
    go_wp2
    go_ret
    exact ⟨true, rfl, ⟨fun _ => HY.out, fun _ => rfl⟩, hw1⟩
  · have hxb : (x == 0) = false := by rw [beq_eq_false_iff_ne]; exact h0
    have HY : Hid (¬ LookOk g a n) := fun hh => h0 (HX.out.2 hh)
    clear h0 HX
    go_wp2
    go_ret
    exact ⟨false, rfl, ⟨fun h => (by cases h), fun h => absurd h HY.out⟩, hw1⟩

set_option maxRecDepth 100000 in
set_option maxHeartbeats 8000000 in
theorem walk_TopSimple {g : List Rl} {A : Option Addr} {cp : Nat} {row : Nat → List Value} (a : ByteArray) (n : Int) (w : World) (hg : GrIs w w.heap.size g A cp row) (hwf : ∀ r ∈ g, WfE r.2) :
    Calls Try.prog 8 #[.agg #[.slice A g.length cp], .string a, .int .i64 n] w fun e w' => e = .returned (.bool true) ∧ Below w.heap.size w w' := by
  have hsm := fun W => smallT_any a n W
  have hk5 : wiN n 5 < 5 := wiN_lt n (by decide)
  have hsz := smA_size a
  obtain ⟨a', ha'⟩ : ∃ a', smA a = a' := ⟨_, rfl⟩
  obtain ⟨k, hk⟩ : ∃ k, wiN n 5 = k := ⟨_, rfl⟩
  rw [ha', hk] at hsm
  rw [hk] at hk5
  rw [ha'] at hsz
  have hri := fun W (hW : Below w.heap.size w W) => right_any (hg.grow hW) a' k (by omega) (by unfold I64; omega)
  have hsi := fun W (hW : Below w.heap.size w W) => simp_any (hg.grow hW)
  have hke := fun W (hW : Below w.heap.size w W) => kernel_any (hg.grow hW)
  have hbg := begun_any
  have HSM := Lib.hid hsm
  have HRI := Lib.hid hri
  have HSI := Lib.hid hsi
  have HKE := Lib.hid hke
  have HBG := Lib.hid hbg
  have HG := Lib.hid hg
  have HWF := Lib.hid hwf
  clear hsm hri hsi hke hbg hg hwf ha' hk
  go_enter Try.func8, Try.ntmps8
  go_wp2_with fail
  refine (HSM.out _).mono ?_
  rintro e w1 ⟨rfl, hb1⟩
  have hgx : Blk w1 w.heap.size 24 #[.slice A g.length cp] := (blk_at rfl).below hb1 (by first | omega | (simp; omega) | simp)
  have hw1 : Below w.heap.size w w1 := ((Below.refl _ w).alloc (Nat.le_refl _) _).trans (hb1.mono (by first | omega | (simp; omega) | simp))
  clear hb1
  go_wp2_with fail
  refine (HBG.out _).mono ?_
  rintro e w2 ⟨rfl, hb2⟩
  replace hgx := hgx.below hb2 hgx.lt
  replace hw1 := hw1.trans (hb2.mono hw1.size)
  clear hb2
  have g0 : w2.cell? ⟨w.heap.size, 0, none⟩ = some (.slice A g.length cp) := hgx.cell 0
  go_wp2_with fail
  refine (HRI.out _ hw1).mono ?_
  rintro e w3 ⟨b, rfl, hbo, hb3⟩
  replace hgx := hgx.below hb3 hgx.lt
  replace hw1 := hw1.trans (hb3.mono hw1.size)
  clear hb3 g0
  have g0 : w3.cell? ⟨w.heap.size, 0, none⟩ = some (.slice A g.length cp) := hgx.cell 0
  cases b with
  | false =>
    clear hbo
    go_wp2_with fail
    refine (HBG.out _).mono ?_
    rintro e w4 ⟨rfl, hb4⟩
    replace hw1 := hw1.trans (hb4.mono hw1.size)
    go_wp2
    go_ret
    exact ⟨rfl, hw1⟩
  | true =>
    have hok := hbo.1 rfl
    clear hbo
    have W0 := well_of hok.1
    obtain ⟨hE, -⟩ := simp_end W0
    have hlen := hE.len
    go_wp2_with fail
    refine (HSI.out _ hw1).mono ?_
    rintro e w4 ⟨hb4, hq⟩
    replace hgx := hgx.below hb4 hgx.lt
    replace hw1 := hw1.trans (hb4.mono hw1.size)
    clear hb4 g0
    rcases hq with ⟨hbad, _⟩ | ⟨_, V, c, rows, rfl, hF⟩
    · exact absurd hok.1 hbad
    have hH := hF.is
    have hz4 := hw1.size
    have hl4 := hgx.lt
    replace hgx := hgx.alloc (.cells #[.slice V g.length c] 24)
    replace hw1 := hw1.alloc hz4 (.cells #[.slice V g.length c] 24)
    replace hH := hH.grow ((Below.refl _ w4).alloc (Nat.le_refl _) (.cells #[.slice V g.length c] 24))
    have hhx : Blk (w4.alloc (.cells #[.slice V g.length c] 24)) w4.heap.size 24 #[.slice V g.length c] := blk_at rfl
    have hls := fun W (hW : Below (w4.alloc (.cells #[.slice V g.length c] 24)).heap.size (w4.alloc (.cells #[.slice V g.length c] 24)) W) =>
      (least_any ((HG.out.grow hw1).grow hW) HWF.out (hH.grow hW) (wf_simN _ HWF.out) a' k (by omega) (by unfold I64; omega)).mono fun e w' h => least_no h hok (look_sim' hok) (acc_sim W0)
    rw [hlen] at hls
    have HLS := Lib.hid hls
    have HOK := Lib.hid hok
    have HW0 := Lib.hid W0
    clear hls hF hH hE hlen hok W0
    go_upto_region 5 with fail
    generalize (w4.alloc (.cells #[.slice V g.length c] 24)) = w5 at hgx hw1 hhx HLS ⊢
    generalize w4.heap.size = hb at hhx ⊢
    clear hz4 hl4
    have g0 : w5.cell? ⟨w.heap.size, 0, none⟩ = some (.slice A g.length cp) := hgx.cell 0
    have h0 : w5.cell? ⟨hb, 0, none⟩ = some (.slice V g.length c) := hhx.cell 0
    go_wp2_with fail
    refine (HLS.out _ (Below.refl _ _)).mono ?_
    rintro e w6 ⟨hb6, rfl⟩
    replace hgx := hgx.below hb6 hgx.lt
    replace hw1 := hw1.trans (hb6.mono hw1.size)
    clear hb6 g0 h0 hhx HLS
    have g0 : w6.cell? ⟨w.heap.size, 0, none⟩ = some (.slice A g.length cp) := hgx.cell 0
    go_wp2_with fail
    refine (HKE.out _ hw1).mono ?_
    rintro e w7 ⟨hb7, hq⟩
    replace hgx := hgx.below hb7 hgx.lt
    replace hw1 := hw1.trans (hb7.mono hw1.size)
    clear hb7 g0
    have hz7 := hw1.size
    have hl7 := hgx.lt
    rcases hq with ⟨hbad, rfl⟩ | ⟨hk0, V', c', rows', rfl, hF⟩
    · have hxb : (kerR g != 0) = true := by rw [bne_iff_ne]; exact hbad
      generalize kerR g = x at hxb
      clear hbad
      go_wp2
      go_ret
      exact ⟨rfl, (by repeat (first | exact Below.refl _ _ | assumption | refine Below.drew ?_ | refine below_drewN ?_ _ | refine Below.alloc ?_ (by first | omega | (simp; omega) | simp) _ | refine Below.setCell ?_ (by first | omega | (simp; omega) | simp) _))⟩
    have hH := hF.is
    have hlen : (kerG g).length = g.length := kerG_len g
    replace hgx := hgx.alloc (.cells #[.slice V' g.length c'] 24)
    replace hw1 := hw1.alloc hz7 (.cells #[.slice V' g.length c'] 24)
    replace hH := hH.grow ((Below.refl _ w7).alloc (Nat.le_refl _) (.cells #[.slice V' g.length c'] 24))
    have hhx : Blk (w7.alloc (.cells #[.slice V' g.length c'] 24)) w7.heap.size 24 #[.slice V' g.length c'] := blk_at rfl
    have hls := fun (hc : checkG (kerG g) = 0) W (hW : Below (w7.alloc (.cells #[.slice V' g.length c'] 24)).heap.size (w7.alloc (.cells #[.slice V' g.length c'] 24)) W) =>
      (least_any ((HG.out.grow hw1).grow hW) HWF.out (hH.grow hW) (wf_kerG HWF.out) a' k (by omega) (by unfold I64; omega)).mono fun e w' h => least_no h HOK.out (look_ker' HOK.out hc) (acc_ker HW0.out hc)
    have hck := fun W (hW : Below (w7.alloc (.cells #[.slice V' g.length c'] 24)).heap.size (w7.alloc (.cells #[.slice V' g.length c'] 24)) W) => gcheck_any (hH.grow hW)
    rw [hlen] at hls hck
    have HLS := Lib.hid hls
    have HCK := Lib.hid hck
    clear hls hF hH hlen hk0 hck
    go_upto_region 9 with fail
    generalize (w7.alloc (.cells #[.slice V' g.length c'] 24)) = w8 at hgx hw1 hhx HLS HCK ⊢
    generalize w7.heap.size = kb at hhx ⊢
    clear hz7 hl7
    have h0 : w8.cell? ⟨kb, 0, none⟩ = some (.slice V' g.length c') := hhx.cell 0
    by_cases hc : checkG (kerG g) = 0
    · have hls := HLS.out hc
      rw [hc] at HCK
      have HLS := Lib.hid hls
      clear hls hc
      go_wp2_with fail
      refine (HCK.out _ (Below.refl _ _)).mono ?_
      rintro e w9 ⟨rfl, hb9⟩
      replace hgx := hgx.below hb9 hgx.lt
      replace hhx := hhx.below hb9 hhx.lt
      replace hw1 := hw1.trans (hb9.mono hw1.size)
      clear h0
      have g0 : w9.cell? ⟨w.heap.size, 0, none⟩ = some (.slice A g.length cp) := hgx.cell 0
      have h0 : w9.cell? ⟨kb, 0, none⟩ = some (.slice V' g.length c') := hhx.cell 0
      go_wp2_with fail
      refine (HLS.out _ hb9).mono ?_
      rintro e w10 ⟨hb10, rfl⟩
      replace hw1 := hw1.trans (hb10.mono hw1.size)
      go_wp2
      go_ret
      exact ⟨rfl, hw1⟩
    · have hxb : (checkG (kerG g) != 0) = true := by rw [bne_iff_ne]; exact hc
      generalize checkG (kerG g) = x at hxb HCK
      clear hc HLS
      go_wp2_with fail
      refine (HCK.out _ (Below.refl _ _)).mono ?_
      rintro e w9 ⟨rfl, hb9⟩
      replace hw1 := hw1.trans (hb9.mono hw1.size)
      go_wp2
      go_ret
      exact ⟨rfl, hw1⟩
end Go.Proofs.Ytefechceoeeonaa
