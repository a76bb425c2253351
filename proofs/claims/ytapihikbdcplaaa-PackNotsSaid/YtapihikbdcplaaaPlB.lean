/- The walk of the law PackRest. -/
import Derived.Test.YtapihikbdcplaaaPlA
namespace Go.Proofs.Ytapihikbdcplaaa
open Go.RowKit Go.Maps

theorem rest_at {v : Option Nat} {x : Int} (h : AtR [(nameA, litE ⟨#[120]⟩)] 0 ⟨#[121, 120]⟩ 1 v x) : v = some 1 ∧ x = 0 := by
  rcases h with ⟨h1, _⟩ | ⟨_, h2, _⟩ | ⟨_, j, q, r, o, hj, hq, _, hr, hs, rfl, rfl⟩
  · exact absurd rest_look h1
  · exfalso
    rcases h2 with h2 | h2 | h2 | h2
    · omega
    · simp at h2
    · omega
    · exact absurd h2 (by decide)
  · have hj0 : j = 0 := by omega
    have hq1 : q = 1 := by omega
    subst hj0 hq1
    simp only [List.getElem?_cons_zero, Option.some.injEq] at hr
    subst hr
    obtain rfl := hs.eq ⟨1, rest_ev⟩
    exact ⟨rfl, rfl⟩
theorem wfe_lit (t : ByteArray) : WfE (litE t) := .mk _ _ _ _ _ _ _ (by unfold I64; omega) (by unfold U64; omega) (by unfold U64; omega) (by unfold U64; omega) (by unfold U64; omega) (fun e h => by cases h)
theorem wf_one {e : Ex} (h : WfE e) : ∀ r ∈ [(nameA, e)], WfE r.2 := fun r hr => by simp only [List.mem_singleton] at hr; subst hr; exact h

set_option maxRecDepth 100000 in
set_option maxHeartbeats 8000000 in
theorem walk_PackRest {g : List Rl} {A : Option Addr} {cp : Nat} {row : Nat → List Value} (i : Int) (s2 s3 : ByteArray) (w : World) (h : GrIs w w.heap.size g A cp row) (hwf : ∀ r ∈ g, WfE r.2) (n2 : s2.size ≤ 140737488352000) (n3 : s3.size ≤ 140737488352000) :
    Calls Try.prog 8 #[.agg #[.slice A g.length cp], .int .i64 i, .string s2, .string s3] w fun e w' => e = .returned (.bool true) ∧ Below w.heap.size w w' := by
  have hso := run_same_out
  have hlit := lit_b ⟨#[120]⟩
  have hone := fun W => one_b (litE ⟨#[120]⟩) _ W (litE_is W ⟨#[120]⟩ (by decide))
  unfold exCells at hlit hone
  have hata := fun W (hW : Below w.heap.size w W) => at_any (h.grow hW) hwf i (s2 ++ s3) s2.size
  have hatb := fun W (hW : Below w.heap.size w W) => at_any (h.grow hW) hwf i s3 0
  have hdat : (s2 ++ s3).data.toList = s2.data.toList ++ s3.data.toList := by simp
  have HAA := Lib.hid hata
  have HAB := Lib.hid hatb
  have HL := Lib.hid hlit
  have HO := Lib.hid hone
  have HD := Lib.hid hdat
  clear hata hatb hlit hone h hwf hdat
  go_enter Try.func8, Try.ntmps8
  go_wp2_with fail
  refine (HL.out _).mono ?_
  rintro e w1 ⟨rfl, hb1⟩
  have hgx : Blk w1 w.heap.size 24 #[.slice A g.length cp] := (blk_at rfl).below hb1 (by simp)
  have hw1 : Below w.heap.size w w1 := ((Below.refl _ w).alloc (Nat.le_refl _) _).trans (hb1.mono (by simp))
  clear hb1
  go_wp2_with fail
  refine (HO.out _).mono ?_
  rintro e w2 ⟨b, rfl, hG, hb2⟩
  have hgx2 := hgx.below hb2 hgx.lt
  have hw2 := hw1.trans (hb2.mono hw1.size)
  clear hb2 hgx hw1
  go_wp2_with fail
  refine (at_any hG (wf_one (wfe_lit _)) 0 ⟨#[121, 120]⟩ 1).mono ?_
  rintro e w3 ⟨v, x, hv, rfl, hb3⟩
  obtain ⟨rfl, rfl⟩ := rest_at hv
  have hgx3 := hgx2.below hb3 hgx2.lt
  have hw3 := hw2.trans (hb3.mono hw2.size)
  have g0 : w3.cell? ⟨w.heap.size, 0, none⟩ = some (.slice A g.length cp) := hgx3.cell 0
  have hov : outV (some 1) = .agg #[.bool true, .int .i64 1] := rfl
  rw [hov]
  have hz3 := hw3.size
  have hgl := hgx3.lt
  clear hb3 hgx2 hw2 hG hv hov
  by_cases h60 : 60 < s2.size + s3.size
  · have hi : (60 : Int) < (s2.size : Int) + (s3.size : Int) := by omega
    have hwr : IntKind.i64.wrap ((s2.size : Int) + (s3.size : Int)) = (s2.size : Int) + (s3.size : Int) := wrap_i64 _ (by omega) (by omega)
    go_wp2
    go_ret
    exact ⟨rfl, (by repeat (first | exact Below.refl _ _ | assumption | refine Below.drew ?_ | refine below_drewN ?_ _ | refine Below.alloc ?_ (by first | omega | (simp; omega) | simp) _ | refine Below.setCell ?_ (by first | omega | (simp; omega) | simp) _))⟩
  · have hi : ((60 : Int) < (s2.size : Int) + (s3.size : Int)) = False := by simp; omega
    have hwr : IntKind.i64.wrap ((s2.size : Int) + (s3.size : Int)) = (s2.size : Int) + (s3.size : Int) := wrap_i64 _ (by omega) (by omega)
    go_wp2_with fail
    refine (HAA.out _ (by repeat (first | exact Below.refl _ _ | assumption | refine Below.drew ?_ | refine below_drewN ?_ _ | refine Below.alloc ?_ (by first | omega | (simp; omega) | simp) _ | refine Below.setCell ?_ (by first | omega | (simp; omega) | simp) _))).mono ?_
    rintro e w4 ⟨v, x, hv, rfl, hb4⟩
    have hgx4 := (hgx3.alloc _).below hb4 (by simp; omega)
    have hw4 : Below w.heap.size w w4 := (hw3.alloc hz3 _).trans (hb4.mono (by simp; omega))
    have g4 : w4.cell? ⟨w.heap.size, 0, none⟩ = some (.slice A g.length cp) := hgx4.cell 0
    have hz4 := hw4.size
    have hgl4 := hgx4.lt
    rw [outV_eq]
    clear hb4 g0
    go_wp2_with fail
    refine (HAB.out _ (by repeat (first | exact Below.refl _ _ | assumption | refine Below.drew ?_ | refine below_drewN ?_ _ | refine Below.alloc ?_ (by first | omega | (simp; omega) | simp) _ | refine Below.setCell ?_ (by first | omega | (simp; omega) | simp) _))).mono ?_
    rintro e w5 ⟨v', x', hv', rfl, hb5⟩
    have hx1 : Blk w5 w4.heap.size 60 #[.bool v.isSome, .int .i64 (v.getD 0 : Nat)] := (blk_at rfl).below hb5 (by simp)
    have hw5 : Below w.heap.size w w5 := (hw4.alloc hz4 _).trans (hb5.mono (by simp; omega))
    obtain ⟨rfl, rfl⟩ := rest_law HD.out (by omega) hv hv'
    have y0 : w5.cell? ⟨w4.heap.size, 0, none⟩ = some (.bool v.isSome) := hx1.cell 0
    have y1 : w5.cell? ⟨w4.heap.size, 1, none⟩ = some (.int .i64 (v.getD 0 : Nat)) := hx1.cell 1
    have hz5 := hw5.size
    have hyl := hx1.lt
    rw [outV_eq]
    generalize v.isSome = vb at y0 ⊢
    generalize ((v.getD 0 : Nat) : Int) = vn at y1 ⊢
    clear hb5 hv hv'
    go_wp2
    go_ret
    exact ⟨by simp, (by repeat (first | exact Below.refl _ _ | assumption | refine Below.drew ?_ | refine below_drewN ?_ _ | refine Below.alloc ?_ (by first | omega | (simp; omega) | simp) _ | refine Below.setCell ?_ (by first | omega | (simp; omega) | simp) _))⟩
end Go.Proofs.Ytapihikbdcplaaa
