/- The walk of the law KernelOwn. -/
import Derived.Test.YtefechceoeeonaaRB
import Derived.Test.YtefechceoeeonaaSmB
import Derived.Test.YtefechceoeeonaaSwG
namespace Go.Proofs.Ytefechceoeeonaa
open Go.RowKit

theorem k8_sm {e : Ex} (h : K8 e) : SmE e := by
  induction h with
  | mk k a b c d t ks hl _ ih => exact .mk k a b c d t ks (by omega) ih
theorem sm_nil : SmG [] := ⟨by simp, fun r hr => by cases hr⟩
theorem OutS.below {lo hi B : Nat} {w w' : World} (h : OutS lo hi w w') (h1 : B ≤ lo) (h2 : B ≤ w.heap.size) : Below B w w' := ⟨h.os, h.tape, h.output, h.size, fun b hb => h.block b (by omega) (.inl (by omega))⟩
/-- a grammar made anew, of these rules -/
def OwnQ (hl : List Rl) (w : World) (e : Ending) (w' : World) : Prop := Below w.heap.size w w' ∧ ∃ V c rows x, e = .returned (.tuple #[.agg #[.slice V hl.length c], .int .i64 x]) ∧ GrF (fun b => w.heap.size ≤ b ∧ b < w'.heap.size) w'.heap.size w' hl V c rows
theorem kernel_own {g : List Rl} {A : Option Addr} {cp : Nat} {row : Nat → List Value} {w : World} (h : GrIs w w.heap.size g A cp row) : ∃ hl, SmG hl ∧ Calls Try.prog 12 #[.agg #[.slice A g.length cp]] w (OwnQ hl w) := by
  by_cases h0 : kerR g = 0
  · have hc : checkG g = 0 := by
      unfold kerR at h0
      split at h0
      · rename_i h; exact absurd h0 h
      · rename_i h; simpa using h
    have R := right_of hc
    refine ⟨kerG g, ⟨by rw [kerG_len]; have := R.ten; omega, fun r hr => ?_⟩, (kernel_any h).mono ?_⟩
    · obtain ⟨r0, hr0, rfl⟩ := List.mem_map.1 hr
      exact k8_sm (Fit1.of_rt (R.rt _ hr0)).k8
    · rintro e w' ⟨hb, ⟨hbad, _⟩ | ⟨_, V, c, rows, rfl, hF⟩⟩
      · exact absurd h0 hbad
      · exact ⟨hb, V, c, rows, 0, by rw [kerG_len], hF⟩
  · refine ⟨[], sm_nil, (kernel_any h).mono ?_⟩
    rintro e w' ⟨hb, ⟨_, rfl⟩ | ⟨hbad, _⟩⟩
    · exact ⟨hb, none, 0, _, _, rfl, GrF.nil _ _ _⟩
    · exact absurd hbad h0
theorem simp_own {g : List Rl} {A : Option Addr} {cp : Nat} {row : Nat → List Value} {w : World} (h : GrIs w w.heap.size g A cp row) : ∃ hl, SmG hl ∧ Calls Try.prog 19 #[.agg #[.slice A g.length cp]] w (OwnQ hl w) := by
  by_cases h0 : (wellG g).2 = 0
  · obtain ⟨hE, _⟩ := simp_end (well_of h0)
    have hten := hE.well.right.ten
    refine ⟨simpG g, ⟨by omega, fun r hr => k8_sm (k8_rt (hE.well.right.rt _ hr))⟩, (simp_any h).mono ?_⟩
    rintro e w' ⟨hb, ⟨hbad, _⟩ | ⟨_, V, c, rows, rfl, hF⟩⟩
    · exact absurd h0 hbad
    · exact ⟨hb, V, c, rows, 0, by rw [hE.len], hF⟩
  · refine ⟨[], sm_nil, (simp_any h).mono ?_⟩
    rintro e w' ⟨hb, ⟨_, rfl⟩ | ⟨hbad, _⟩⟩
    · exact ⟨hb, none, 0, _, _, rfl, GrF.nil _ _ _⟩
    · exact absurd hbad h0
def xG : List Rl := [(nameA, litE ⟨#[120]⟩)]
theorem x_ker : kerR xG = 0 := by decide +kernel
theorem x_well : (wellG xG).2 = 0 := by decide +kernel
def OneQ (w : World) (e : Ending) (w' : World) : Prop := Below w.heap.size w w' ∧ ∃ V c, e = .returned (.tuple #[.agg #[.slice V 1 c], .int .i64 0])
theorem kernel_x {A : Option Addr} {cp : Nat} {row : Nat → List Value} {w : World} (h : GrIs w w.heap.size xG A cp row) : Calls Try.prog 12 #[.agg #[.slice A 1 cp]] w (OneQ w) := (kernel_any h).mono (by
  rintro e w' ⟨hb, ⟨hbad, _⟩ | ⟨_, V, c, rows, rfl, _⟩⟩
  · exact absurd x_ker hbad
  · exact ⟨hb, V, c, rfl⟩)
theorem simp_x {A : Option Addr} {cp : Nat} {row : Nat → List Value} {w : World} (h : GrIs w w.heap.size xG A cp row) : Calls Try.prog 19 #[.agg #[.slice A 1 cp]] w (OneQ w) := (simp_any h).mono (by
  rintro e w' ⟨hb, ⟨hbad, _⟩ | ⟨_, V, c, rows, rfl, _⟩⟩
  · exact absurd x_well hbad
  · exact ⟨hb, V, c, rfl⟩)
end Go.Proofs.Ytefechceoeeonaa
