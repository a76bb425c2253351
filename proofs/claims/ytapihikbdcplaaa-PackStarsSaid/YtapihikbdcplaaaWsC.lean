/- The walk of the law PackStars. -/
import Derived.Test.YtapihikbdcplaaaWhE
namespace Go.Proofs.Ytapihikbdcplaaa
open Go.RowKit Go.Maps

set_option maxRecDepth 100000 in
set_option maxHeartbeats 32000000 in
theorem walk_PackStars {g : List Rl} {A : Option Addr} {cp : Nat} {row : Nat → List Value} {ea : Ex} {ca : List Value} (s : ByteArray) (w : World) (h : GrIs w w.heap.size g A cp row) (hwf : ∀ r ∈ g, WfE r.2) (hg : g.length ≤ 1466015503690)
    (ha : ExIs w w.heap.size ea ca) (hwa : WfE ea) :
    Calls Try.prog 12 #[.agg #[.slice A g.length cp], .agg ca.toArray, .string s] w fun e w' => e = .returned (.bool true) ∧ Below w.heap.size w w' := by
  obtain ⟨ak, a1, a2, a3, a4, ats, aA, an, ap, rfl⟩ := Ex.parts _ ha
  have HWF := Lib.hid hwf
  have HG0 := Lib.hid h
  have HA0 := Lib.hid ha
  clear h hwf ha
  go_enter Try.func12, Try.ntmps12
  go_wp2_with fail
  refine (of_b _ _ _ _ _).mono ?_
  rintro e wb ⟨rfl, hb⟩
  have hk0 : Blk (((w.alloc (.cells #[.slice A g.length cp] 24)).alloc (.cells #[.int .i64 ak, .int .u64 a1, .int .u64 a2, .int .u64 a3, .int .u64 a4, .string ats, .slice aA an ap] 34)).alloc (.cells #[.int .i64 ak, .int .u64 a1, .int .u64 a2, .int .u64 a3, .int .u64 a4, .string ats, .slice aA an ap] 34)) (w.heap.size + 1 + 1) 34 #[.int .i64 ak, .int .u64 a1, .int .u64 a2, .int .u64 a3, .int .u64 a4, .string ats, .slice aA an ap] := blk_at (by simp)
  have hk1 := hk0.below hb (by simp)
  have hax : Blk wb (w.heap.size + 1) 34 #[.int .i64 ak, .int .u64 a1, .int .u64 a2, .int .u64 a3, .int .u64 a4, .string ats, .slice aA an ap] := ((blk_at (by simp)).alloc _).below hb (by simp)
  have hgx : Blk wb w.heap.size 24 #[.slice A g.length cp] := (((blk_at rfl).alloc _).alloc _).below hb (by simp; omega)
  have hwb : Below w.heap.size w wb := ((((Below.refl _ w).alloc (Nat.le_refl _) _).alloc (by simp) _).alloc (by simp; omega) _).trans (hb.mono (by simp; omega))
  have hst := ex_one (HA0.out.grow hwb) hk1 rfl 7
  clear hb hk0 hk1
  unfold exCells at hst ⊢
  go_wp2_with fail
  have hw0 : Below w.heap.size w (wb.alloc (.cells #[.int .i64 7, .int .u64 0, .int .u64 0, .int .u64 0, .int .u64 0, .string ⟨#[]⟩, .slice (some ⟨w.heap.size + 1 + 1, 0, none⟩) 1 1] 34)) := hwb.alloc hwb.size _
  have hsx : Blk (wb.alloc (.cells #[.int .i64 7, .int .u64 0, .int .u64 0, .int .u64 0, .int .u64 0, .string ⟨#[]⟩, .slice (some ⟨w.heap.size + 1 + 1, 0, none⟩) 1 1] 34)) wb.heap.size 34 #[.int .i64 7, .int .u64 0, .int .u64 0, .int .u64 0, .int .u64 0, .string ⟨#[]⟩, .slice (some ⟨w.heap.size + 1 + 1, 0, none⟩) 1 1] := blk_at rfl
  have hax0 := hax.alloc (.cells #[.int .i64 7, .int .u64 0, .int .u64 0, .int .u64 0, .int .u64 0, .string ⟨#[]⟩, .slice (some ⟨w.heap.size + 1 + 1, 0, none⟩) 1 1] 34)
  have hgx0 := hgx.alloc (.cells #[.int .i64 7, .int .u64 0, .int .u64 0, .int .u64 0, .int .u64 0, .string ⟨#[]⟩, .slice (some ⟨w.heap.size + 1 + 1, 0, none⟩) 1 1] 34)
  have hst0 := hst.grow ((Below.refl _ wb).alloc (Nat.le_refl _) (.cells #[.int .i64 7, .int .u64 0, .int .u64 0, .int .u64 0, .int .u64 0, .string ⟨#[]⟩, .slice (some ⟨w.heap.size + 1 + 1, 0, none⟩) 1 1] 34))
  generalize wb.alloc (.cells #[.int .i64 7, .int .u64 0, .int .u64 0, .int .u64 0, .int .u64 0, .string ⟨#[]⟩, .slice (some ⟨w.heap.size + 1 + 1, 0, none⟩) 1 1] 34) = w0 at hw0 hsx hax0 hgx0 hst0 ⊢
  have HG := Lib.hid (HG0.out.grow hw0)
  have HA := Lib.hid (HA0.out.grow hw0)
  have HB := Lib.hid hst0
  have hC0 : LawC w0 w.heap.size g.length A cp [(w.heap.size + 1, [.int .i64 ak, .int .u64 a1, .int .u64 a2, .int .u64 a3, .int .u64 a4, .string ats, .slice aA an ap]), (wb.heap.size, [.int .i64 7, .int .u64 0, .int .u64 0, .int .u64 0, .int .u64 0, .string ⟨#[]⟩, .slice (some ⟨w.heap.size + 1 + 1, 0, none⟩) 1 1])] w0 :=
    ⟨Below.refl _ _, hgx0, fun i p hp => by
      match i, hp with
      | 0, hp => simp only [List.getElem?_cons_zero, Option.some.injEq] at hp; subst hp; exact hax0
      | 1, hp => simp only [List.getElem?_cons_succ, List.getElem?_cons_zero, Option.some.injEq] at hp; subst hp; exact hsx
      | n + 2, hp => simp at hp⟩
  clear HG0 HA0 hgx hax hax0 hgx0 hsx hst hst0 hwb
  refine wp_region_all (LawC w0 w.heap.size g.length A cp [(w.heap.size + 1, [.int .i64 ak, .int .u64 a1, .int .u64 a2, .int .u64 a3, .int .u64 a4, .string ats, .slice aA an ap]), (wb.heap.size, [.int .i64 7, .int .u64 0, .int .u64 0, .int .u64 0, .int .u64 0, .string ⟨#[]⟩, .slice (some ⟨w.heap.size + 1 + 1, 0, none⟩) 1 1])]) (mnM [.v (.bool true), .v (.bool true), .v (.agg #[.slice A g.length cp]), .e (ofN 7 [ea]), .e ea, .e (ofN 7 [ea]), .k [ea, (ofN 7 [ea])], .e (ofN 5 [ea, (ofN 7 [ea])]), .e emptyX, .k [(ofN 5 [ea, (ofN 7 [ea])]), emptyX], .e (ofN 6 [(ofN 5 [ea, (ofN 7 [ea])]), emptyX]), .v (.string s), .v (.bool true), .v (.bool true), .v (.bool true), .v (.agg #[.slice A g.length cp]), .e ea, .k [ea], .e (ofN 8 [ea]), .e ea, .e (ofN 7 [ea]), .k [ea, (ofN 7 [ea])], .e (ofN 5 [ea, (ofN 7 [ea])]), .v (.string s), .v (.bool true), .v (.bool true), .v (.bool true), .v (.agg #[.slice A g.length cp]), .e (ofN 7 [ea]), .e ea, .k [(ofN 7 [ea]), ea], .e (ofN 5 [(ofN 7 [ea]), ea]), .e emptyX, .k [emptyX], .e (ofN 11 [emptyX]), .v (.string s), .v (.bool true), .v (.bool true), .v (.bool true)]) 39 rfl (by kernel_rfl) (by kernel_rfl) (by kernel_rfl) (by kernel_rfl) (hC0.below ((Below.refl _ _).drew)) ?_ ?_
  · intro i o hi ho
    have hiN : i = 0 ∨ i = 1 ∨ i = 2 ∨ i = 3 ∨ i = 4 ∨ i = 5 ∨ i = 6 ∨ i = 7 ∨ i = 8 ∨ i = 9 ∨ i = 10 ∨ i = 11 ∨ i = 12 ∨ i = 13 ∨ i = 14 ∨ i = 15 ∨ i = 16 ∨ i = 17 ∨ i = 18 ∨ i = 19 ∨ i = 20 ∨ i = 21 ∨ i = 22 ∨ i = 23 ∨ i = 24 ∨ i = 25 ∨ i = 26 ∨ i = 27 ∨ i = 28 ∨ i = 29 ∨ i = 30 ∨ i = 31 ∨ i = 32 ∨ i = 33 ∨ i = 34 ∨ i = 35 ∨ i = 36 ∨ i = 37 ∨ i = 38 := by omega
    rcases hiN with rfl | rfl | rfl | rfl | rfl | rfl | rfl | rfl | rfl | rfl | rfl | rfl | rfl | rfl | rfl | rfl | rfl | rfl | rfl | rfl | rfl | rfl | rfl | rfl | rfl | rfl | rfl | rfl | rfl | rfl | rfl | rfl | rfl | rfl | rfl | rfl | rfl | rfl | rfl
    all_goals
      simp only [List.getElem?_toArray, List.getElem?_cons_zero, List.getElem?_cons_succ, Option.some.injEq] at ho
      subst ho
      intro listed act W hls hun hC hS hD
    · refine ⟨rfl, fun K hK => ?_⟩
      unfold Oper.wp
      go_simp
      refine (sound_b W).mono ?_
      rintro e w' ⟨rfl, hb⟩
      exact hK _ _ rfl (hC.below hb) (fun j u _ h => Mn.keep hb h)
    · refine ⟨rfl, fun K hK => ?_⟩
      obtain ⟨v11, h11, m11⟩ := (hD ⟨0, .data⟩ (by simp) rfl).2.at_ (d := 11) rfl
      have hm : v11 = .bool true := m11
      subst hm
      unfold Oper.wp
      go_simp
      exact hK _ _ rfl hC (fun j u _ h => Mn.keep (Below.refl _ _) h)
    · obtain ⟨vg, hgd, mg⟩ := (hD ⟨1, .guard⟩ (by simp) rfl).2.at_ (d := 12) rfl
      have hgm : vg = .bool true := mg
      subst hgm
      refine ⟨wanted_some rfl rfl hgd, fun K hK => ?_⟩
      have h3 : act.tmps[3]? = some (.pointer (some ⟨w.heap.size, 0, none⟩)) := (hS.at_ 3 (by kernel_rfl)).trans rfl
      have g0 : W.cell? ⟨w.heap.size, 0, none⟩ = some (.slice A g.length cp) := hC.g.cell 0
      unfold Oper.wp
      go_simp
      exact hK _ _ rfl hC (fun j u _ h => Mn.keep (Below.refl _ _) h)
    · obtain ⟨vg, hgd, mg⟩ := (hD ⟨1, .guard⟩ (by simp) rfl).2.at_ (d := 12) rfl
      have hgm : vg = .bool true := mg
      subst hgm
      refine ⟨wanted_some rfl rfl hgd, fun K hK => ?_⟩
      have h7 : act.tmps[7]? = some (.pointer (some ⟨wb.heap.size, 0, none⟩)) := (hS.at_ 7 (by kernel_rfl)).trans rfl
      have hbx := hC.ex 1 _ rfl
      have x0 : W.cell? ⟨wb.heap.size, 0, none⟩ = some (.int .i64 7) := hbx.cell 0; have x1 : W.cell? ⟨wb.heap.size, 1, none⟩ = some (.int .u64 0) := hbx.cell 1; have x2 : W.cell? ⟨wb.heap.size, 2, none⟩ = some (.int .u64 0) := hbx.cell 2; have x3 : W.cell? ⟨wb.heap.size, 3, none⟩ = some (.int .u64 0) := hbx.cell 3; have x4 : W.cell? ⟨wb.heap.size, 4, none⟩ = some (.int .u64 0) := hbx.cell 4; have x5 : W.cell? ⟨wb.heap.size, 5, none⟩ = some (.string ⟨#[]⟩) := hbx.cell 5; have x6 : W.cell? ⟨wb.heap.size, 6, none⟩ = some (.slice (some ⟨w.heap.size + 1 + 1, 0, none⟩) 1 1) := hbx.cell 6
      unfold Oper.wp
      go_simp
      exact hK _ _ ⟨_, rfl, HB.out.grow hC.bel⟩ hC (fun j u _ h => Mn.keep (Below.refl _ _) h)
    · obtain ⟨vg, hgd, mg⟩ := (hD ⟨1, .guard⟩ (by simp) rfl).2.at_ (d := 12) rfl
      have hgm : vg = .bool true := mg
      subst hgm
      refine ⟨wanted_some rfl rfl hgd, fun K hK => ?_⟩
      have h4 : act.tmps[4]? = some (.pointer (some ⟨w.heap.size + 1, 0, none⟩)) := (hS.at_ 4 (by kernel_rfl)).trans rfl
      have hbx := hC.ex 0 _ rfl
      have x0 : W.cell? ⟨w.heap.size + 1, 0, none⟩ = some (.int .i64 ak) := hbx.cell 0; have x1 : W.cell? ⟨w.heap.size + 1, 1, none⟩ = some (.int .u64 a1) := hbx.cell 1; have x2 : W.cell? ⟨w.heap.size + 1, 2, none⟩ = some (.int .u64 a2) := hbx.cell 2; have x3 : W.cell? ⟨w.heap.size + 1, 3, none⟩ = some (.int .u64 a3) := hbx.cell 3; have x4 : W.cell? ⟨w.heap.size + 1, 4, none⟩ = some (.int .u64 a4) := hbx.cell 4; have x5 : W.cell? ⟨w.heap.size + 1, 5, none⟩ = some (.string ats) := hbx.cell 5; have x6 : W.cell? ⟨w.heap.size + 1, 6, none⟩ = some (.slice aA an ap) := hbx.cell 6
      unfold Oper.wp
      go_simp
      exact hK _ _ ⟨_, rfl, HA.out.grow hC.bel⟩ hC (fun j u _ h => Mn.keep (Below.refl _ _) h)
    · obtain ⟨vg, hgd, mg⟩ := (hD ⟨1, .guard⟩ (by simp) rfl).2.at_ (d := 12) rfl
      have hgm : vg = .bool true := mg
      subst hgm
      refine ⟨wanted_some rfl rfl hgd, fun K hK => ?_⟩
      have h7 : act.tmps[7]? = some (.pointer (some ⟨wb.heap.size, 0, none⟩)) := (hS.at_ 7 (by kernel_rfl)).trans rfl
      have hbx := hC.ex 1 _ rfl
      have x0 : W.cell? ⟨wb.heap.size, 0, none⟩ = some (.int .i64 7) := hbx.cell 0; have x1 : W.cell? ⟨wb.heap.size, 1, none⟩ = some (.int .u64 0) := hbx.cell 1; have x2 : W.cell? ⟨wb.heap.size, 2, none⟩ = some (.int .u64 0) := hbx.cell 2; have x3 : W.cell? ⟨wb.heap.size, 3, none⟩ = some (.int .u64 0) := hbx.cell 3; have x4 : W.cell? ⟨wb.heap.size, 4, none⟩ = some (.int .u64 0) := hbx.cell 4; have x5 : W.cell? ⟨wb.heap.size, 5, none⟩ = some (.string ⟨#[]⟩) := hbx.cell 5; have x6 : W.cell? ⟨wb.heap.size, 6, none⟩ = some (.slice (some ⟨w.heap.size + 1 + 1, 0, none⟩) 1 1) := hbx.cell 6
      unfold Oper.wp
      go_simp
      exact hK _ _ ⟨_, rfl, HB.out.grow hC.bel⟩ hC (fun j u _ h => Mn.keep (Below.refl _ _) h)
    · obtain ⟨vg, hgd, mg⟩ := (hD ⟨1, .guard⟩ (by simp) rfl).2.at_ (d := 12) rfl
      have hgm : vg = .bool true := mg
      subst hgm
      refine ⟨wanted_some rfl rfl hgd, fun K hK => ?_⟩
      obtain ⟨v15, h15, m15⟩ := (hD ⟨4, .data⟩ (by simp) rfl).2.at_ (d := 15) rfl
      obtain ⟨v16, h16, m16⟩ := (hD ⟨5, .data⟩ (by simp) rfl).2.at_ (d := 16) rfl
      obtain ⟨cs0, rfl, hx0⟩ := m15
      obtain ⟨p0k, p0a, p0b, p0c, p0d, p0t, p0A, p0n, p0p, hc0⟩ := Ex.parts _ hx0
      subst hc0
      obtain ⟨cs1, rfl, hx1⟩ := m16
      obtain ⟨p1k, p1a, p1b, p1c, p1d, p1t, p1A, p1n, p1p, hc1⟩ := Ex.parts _ hx1
      subst hc1
      unfold Oper.wp
      go_simp
      have hbb : Below W.heap.size W (W.alloc (.cells #[.int .i64 p0k, .int .u64 p0a, .int .u64 p0b, .int .u64 p0c, .int .u64 p0d, .string p0t, .slice p0A p0n p0p, .int .i64 p1k, .int .u64 p1a, .int .u64 p1b, .int .u64 p1c, .int .u64 p1d, .string p1t, .slice p1A p1n p1p] 34)) := (Below.refl _ _).alloc (Nat.le_refl _) _
      exact hK _ _ ⟨W.heap.size, rfl, fun k => ex_two (hx0.grow hbb) (hx1.grow hbb) (blk_at rfl) rfl k⟩ (hC.below hbb) (fun j u _ h => Mn.keep hbb h)
    · obtain ⟨vg, hgd, mg⟩ := (hD ⟨1, .guard⟩ (by simp) rfl).2.at_ (d := 12) rfl
      have hgm : vg = .bool true := mg
      subst hgm
      refine ⟨wanted_some rfl rfl hgd, fun K hK => ?_⟩
      obtain ⟨v17, h17, m17⟩ := (hD ⟨6, .data⟩ (by simp) rfl).2.at_ (d := 17) rfl
      obtain ⟨bb, rfl, hkk⟩ := m17
      unfold Oper.wp
      go_simp
      refine (of_b _ _ _ _ W).mono ?_
      rintro e w' ⟨rfl, hb⟩
      exact hK _ _ ⟨_, rfl, (hkk 5).grow hb⟩ (hC.below hb) (fun j u _ h => Mn.keep hb h)
    · obtain ⟨vg, hgd, mg⟩ := (hD ⟨1, .guard⟩ (by simp) rfl).2.at_ (d := 12) rfl
      have hgm : vg = .bool true := mg
      subst hgm
      refine ⟨wanted_some rfl rfl hgd, fun K hK => ?_⟩
      unfold Oper.wp
      go_simp
      exact hK _ _ ⟨_, rfl, emptyX_is _⟩ hC (fun j u _ h => Mn.keep (Below.refl _ _) h)
    · obtain ⟨vg, hgd, mg⟩ := (hD ⟨1, .guard⟩ (by simp) rfl).2.at_ (d := 12) rfl
      have hgm : vg = .bool true := mg
      subst hgm
      refine ⟨wanted_some rfl rfl hgd, fun K hK => ?_⟩
      obtain ⟨v18, h18, m18⟩ := (hD ⟨7, .data⟩ (by simp) rfl).2.at_ (d := 18) rfl
      obtain ⟨v19, h19, m19⟩ := (hD ⟨8, .data⟩ (by simp) rfl).2.at_ (d := 19) rfl
      obtain ⟨cs0, rfl, hx0⟩ := m18
      obtain ⟨p0k, p0a, p0b, p0c, p0d, p0t, p0A, p0n, p0p, hc0⟩ := Ex.parts _ hx0
      subst hc0
      obtain ⟨cs1, rfl, hx1⟩ := m19
      obtain ⟨p1k, p1a, p1b, p1c, p1d, p1t, p1A, p1n, p1p, hc1⟩ := Ex.parts _ hx1
      subst hc1
      unfold Oper.wp
      go_simp
      have hbb : Below W.heap.size W (W.alloc (.cells #[.int .i64 p0k, .int .u64 p0a, .int .u64 p0b, .int .u64 p0c, .int .u64 p0d, .string p0t, .slice p0A p0n p0p, .int .i64 p1k, .int .u64 p1a, .int .u64 p1b, .int .u64 p1c, .int .u64 p1d, .string p1t, .slice p1A p1n p1p] 34)) := (Below.refl _ _).alloc (Nat.le_refl _) _
      exact hK _ _ ⟨W.heap.size, rfl, fun k => ex_two (hx0.grow hbb) (hx1.grow hbb) (blk_at rfl) rfl k⟩ (hC.below hbb) (fun j u _ h => Mn.keep hbb h)
    · obtain ⟨vg, hgd, mg⟩ := (hD ⟨1, .guard⟩ (by simp) rfl).2.at_ (d := 12) rfl
      have hgm : vg = .bool true := mg
      subst hgm
      refine ⟨wanted_some rfl rfl hgd, fun K hK => ?_⟩
      obtain ⟨v20, h20, m20⟩ := (hD ⟨9, .data⟩ (by simp) rfl).2.at_ (d := 20) rfl
      obtain ⟨bb, rfl, hkk⟩ := m20
      unfold Oper.wp
      go_simp
      refine (of_b _ _ _ _ W).mono ?_
      rintro e w' ⟨rfl, hb⟩
      exact hK _ _ ⟨_, rfl, (hkk 6).grow hb⟩ (hC.below hb) (fun j u _ h => Mn.keep hb h)
    · obtain ⟨vg, hgd, mg⟩ := (hD ⟨1, .guard⟩ (by simp) rfl).2.at_ (d := 12) rfl
      have hgm : vg = .bool true := mg
      subst hgm
      refine ⟨wanted_some rfl rfl hgd, fun K hK => ?_⟩
      have h2 : act.tmps[2]? = some (.string s) := (hS.at_ 2 (by kernel_rfl)).trans rfl
      unfold Oper.wp
      go_simp
      exact hK _ _ rfl hC (fun j u _ h => Mn.keep (Below.refl _ _) h)
    · obtain ⟨vg, hgd, mg⟩ := (hD ⟨1, .guard⟩ (by simp) rfl).2.at_ (d := 12) rfl
      have hgm : vg = .bool true := mg
      subst hgm
      refine ⟨wanted_some rfl rfl hgd, fun K hK => ?_⟩
      obtain ⟨v13, h13, m13⟩ := (hD ⟨2, .data⟩ (by simp) rfl).2.at_ (d := 13) rfl
      obtain ⟨v14, h14, m14⟩ := (hD ⟨3, .data⟩ (by simp) rfl).2.at_ (d := 14) rfl
      obtain ⟨v21, h21, m21⟩ := (hD ⟨10, .data⟩ (by simp) rfl).2.at_ (d := 21) rfl
      obtain ⟨v22, h22, m22⟩ := (hD ⟨11, .data⟩ (by simp) rfl).2.at_ (d := 22) rfl
      have hm0 : v13 = .agg #[.slice A g.length cp] := m13
      have hm3 : v22 = .string s := m22
      subst hm0 hm3
      obtain ⟨csa, rfl, hxa⟩ := m14
      obtain ⟨csb, rfl, hxb⟩ := m21
      unfold Oper.wp
      go_simp
      refine (alike_any s (HG.out.grow hC.bel) hxa hxb hg HWF.out (wf_1 (by unfold I64; omega) hwa) (wf_2 (by unfold I64; omega) (wf_2 (by unfold I64; omega) hwa (wf_1 (by unfold I64; omega) hwa)) wf_empty) (fun _ => same_star)).mono ?_
      rintro e w' ⟨rfl, hb⟩
      exact hK _ _ rfl (hC.below hb) (fun j u _ h => Mn.keep hb h)
    · refine ⟨rfl, fun K hK => ?_⟩
      obtain ⟨v12, h12, m12⟩ := (hD ⟨1, .data⟩ (by simp) rfl).2.at_ (d := 12) rfl
      obtain ⟨v23, h23, m23⟩ := (hD ⟨12, .data⟩ (by simp) rfl).2.at_ (d := 23) rfl
      have hm1 : v12 = .bool true := m12
      have hm2 : v23 = .bool true := m23
      subst hm1 hm2
      unfold Oper.wp
      go_simp
      exact hK _ _ rfl hC (fun j u _ h => Mn.keep (Below.refl _ _) h)
    · refine ⟨rfl, fun K hK => ?_⟩
      obtain ⟨v24, h24, m24⟩ := (hD ⟨13, .data⟩ (by simp) rfl).2.at_ (d := 24) rfl
      have hm : v24 = .bool true := m24
      subst hm
      unfold Oper.wp
      go_simp
      exact hK _ _ rfl hC (fun j u _ h => Mn.keep (Below.refl _ _) h)
    · obtain ⟨vg, hgd, mg⟩ := (hD ⟨14, .guard⟩ (by simp) rfl).2.at_ (d := 25) rfl
      have hgm : vg = .bool true := mg
      subst hgm
      refine ⟨wanted_some rfl rfl hgd, fun K hK => ?_⟩
      have h3 : act.tmps[3]? = some (.pointer (some ⟨w.heap.size, 0, none⟩)) := (hS.at_ 3 (by kernel_rfl)).trans rfl
      have g0 : W.cell? ⟨w.heap.size, 0, none⟩ = some (.slice A g.length cp) := hC.g.cell 0
      unfold Oper.wp
      go_simp
      exact hK _ _ rfl hC (fun j u _ h => Mn.keep (Below.refl _ _) h)
    · obtain ⟨vg, hgd, mg⟩ := (hD ⟨14, .guard⟩ (by simp) rfl).2.at_ (d := 25) rfl
      have hgm : vg = .bool true := mg
      subst hgm
      refine ⟨wanted_some rfl rfl hgd, fun K hK => ?_⟩
      have h4 : act.tmps[4]? = some (.pointer (some ⟨w.heap.size + 1, 0, none⟩)) := (hS.at_ 4 (by kernel_rfl)).trans rfl
      have hbx := hC.ex 0 _ rfl
      have x0 : W.cell? ⟨w.heap.size + 1, 0, none⟩ = some (.int .i64 ak) := hbx.cell 0; have x1 : W.cell? ⟨w.heap.size + 1, 1, none⟩ = some (.int .u64 a1) := hbx.cell 1; have x2 : W.cell? ⟨w.heap.size + 1, 2, none⟩ = some (.int .u64 a2) := hbx.cell 2; have x3 : W.cell? ⟨w.heap.size + 1, 3, none⟩ = some (.int .u64 a3) := hbx.cell 3; have x4 : W.cell? ⟨w.heap.size + 1, 4, none⟩ = some (.int .u64 a4) := hbx.cell 4; have x5 : W.cell? ⟨w.heap.size + 1, 5, none⟩ = some (.string ats) := hbx.cell 5; have x6 : W.cell? ⟨w.heap.size + 1, 6, none⟩ = some (.slice aA an ap) := hbx.cell 6
      unfold Oper.wp
      go_simp
      exact hK _ _ ⟨_, rfl, HA.out.grow hC.bel⟩ hC (fun j u _ h => Mn.keep (Below.refl _ _) h)
    · obtain ⟨vg, hgd, mg⟩ := (hD ⟨14, .guard⟩ (by simp) rfl).2.at_ (d := 25) rfl
      have hgm : vg = .bool true := mg
      subst hgm
      refine ⟨wanted_some rfl rfl hgd, fun K hK => ?_⟩
      obtain ⟨v27, h27, m27⟩ := (hD ⟨16, .data⟩ (by simp) rfl).2.at_ (d := 27) rfl
      obtain ⟨cs0, rfl, hx0⟩ := m27
      obtain ⟨p0k, p0a, p0b, p0c, p0d, p0t, p0A, p0n, p0p, hc0⟩ := Ex.parts _ hx0
      subst hc0
      unfold Oper.wp
      go_simp
      have hbb : Below W.heap.size W (W.alloc (.cells #[.int .i64 p0k, .int .u64 p0a, .int .u64 p0b, .int .u64 p0c, .int .u64 p0d, .string p0t, .slice p0A p0n p0p] 34)) := (Below.refl _ _).alloc (Nat.le_refl _) _
      exact hK _ _ ⟨W.heap.size, rfl, fun k => ex_one (hx0.grow hbb) (blk_at rfl) rfl k⟩ (hC.below hbb) (fun j u _ h => Mn.keep hbb h)
    · obtain ⟨vg, hgd, mg⟩ := (hD ⟨14, .guard⟩ (by simp) rfl).2.at_ (d := 25) rfl
      have hgm : vg = .bool true := mg
      subst hgm
      refine ⟨wanted_some rfl rfl hgd, fun K hK => ?_⟩
      obtain ⟨v28, h28, m28⟩ := (hD ⟨17, .data⟩ (by simp) rfl).2.at_ (d := 28) rfl
      obtain ⟨bb, rfl, hkk⟩ := m28
      unfold Oper.wp
      go_simp
      refine (of_b _ _ _ _ W).mono ?_
      rintro e w' ⟨rfl, hb⟩
      exact hK _ _ ⟨_, rfl, (hkk 8).grow hb⟩ (hC.below hb) (fun j u _ h => Mn.keep hb h)
    · obtain ⟨vg, hgd, mg⟩ := (hD ⟨14, .guard⟩ (by simp) rfl).2.at_ (d := 25) rfl
      have hgm : vg = .bool true := mg
      subst hgm
      refine ⟨wanted_some rfl rfl hgd, fun K hK => ?_⟩
      have h4 : act.tmps[4]? = some (.pointer (some ⟨w.heap.size + 1, 0, none⟩)) := (hS.at_ 4 (by kernel_rfl)).trans rfl
      have hbx := hC.ex 0 _ rfl
      have x0 : W.cell? ⟨w.heap.size + 1, 0, none⟩ = some (.int .i64 ak) := hbx.cell 0; have x1 : W.cell? ⟨w.heap.size + 1, 1, none⟩ = some (.int .u64 a1) := hbx.cell 1; have x2 : W.cell? ⟨w.heap.size + 1, 2, none⟩ = some (.int .u64 a2) := hbx.cell 2; have x3 : W.cell? ⟨w.heap.size + 1, 3, none⟩ = some (.int .u64 a3) := hbx.cell 3; have x4 : W.cell? ⟨w.heap.size + 1, 4, none⟩ = some (.int .u64 a4) := hbx.cell 4; have x5 : W.cell? ⟨w.heap.size + 1, 5, none⟩ = some (.string ats) := hbx.cell 5; have x6 : W.cell? ⟨w.heap.size + 1, 6, none⟩ = some (.slice aA an ap) := hbx.cell 6
      unfold Oper.wp
      go_simp
      exact hK _ _ ⟨_, rfl, HA.out.grow hC.bel⟩ hC (fun j u _ h => Mn.keep (Below.refl _ _) h)
    · obtain ⟨vg, hgd, mg⟩ := (hD ⟨14, .guard⟩ (by simp) rfl).2.at_ (d := 25) rfl
      have hgm : vg = .bool true := mg
      subst hgm
      refine ⟨wanted_some rfl rfl hgd, fun K hK => ?_⟩
      have h7 : act.tmps[7]? = some (.pointer (some ⟨wb.heap.size, 0, none⟩)) := (hS.at_ 7 (by kernel_rfl)).trans rfl
      have hbx := hC.ex 1 _ rfl
      have x0 : W.cell? ⟨wb.heap.size, 0, none⟩ = some (.int .i64 7) := hbx.cell 0; have x1 : W.cell? ⟨wb.heap.size, 1, none⟩ = some (.int .u64 0) := hbx.cell 1; have x2 : W.cell? ⟨wb.heap.size, 2, none⟩ = some (.int .u64 0) := hbx.cell 2; have x3 : W.cell? ⟨wb.heap.size, 3, none⟩ = some (.int .u64 0) := hbx.cell 3; have x4 : W.cell? ⟨wb.heap.size, 4, none⟩ = some (.int .u64 0) := hbx.cell 4; have x5 : W.cell? ⟨wb.heap.size, 5, none⟩ = some (.string ⟨#[]⟩) := hbx.cell 5; have x6 : W.cell? ⟨wb.heap.size, 6, none⟩ = some (.slice (some ⟨w.heap.size + 1 + 1, 0, none⟩) 1 1) := hbx.cell 6
      unfold Oper.wp
      go_simp
      exact hK _ _ ⟨_, rfl, HB.out.grow hC.bel⟩ hC (fun j u _ h => Mn.keep (Below.refl _ _) h)
    · obtain ⟨vg, hgd, mg⟩ := (hD ⟨14, .guard⟩ (by simp) rfl).2.at_ (d := 25) rfl
      have hgm : vg = .bool true := mg
      subst hgm
      refine ⟨wanted_some rfl rfl hgd, fun K hK => ?_⟩
      obtain ⟨v30, h30, m30⟩ := (hD ⟨19, .data⟩ (by simp) rfl).2.at_ (d := 30) rfl
      obtain ⟨v31, h31, m31⟩ := (hD ⟨20, .data⟩ (by simp) rfl).2.at_ (d := 31) rfl
      obtain ⟨cs0, rfl, hx0⟩ := m30
      obtain ⟨p0k, p0a, p0b, p0c, p0d, p0t, p0A, p0n, p0p, hc0⟩ := Ex.parts _ hx0
      subst hc0
      obtain ⟨cs1, rfl, hx1⟩ := m31
      obtain ⟨p1k, p1a, p1b, p1c, p1d, p1t, p1A, p1n, p1p, hc1⟩ := Ex.parts _ hx1
      subst hc1
      unfold Oper.wp
      go_simp
      have hbb : Below W.heap.size W (W.alloc (.cells #[.int .i64 p0k, .int .u64 p0a, .int .u64 p0b, .int .u64 p0c, .int .u64 p0d, .string p0t, .slice p0A p0n p0p, .int .i64 p1k, .int .u64 p1a, .int .u64 p1b, .int .u64 p1c, .int .u64 p1d, .string p1t, .slice p1A p1n p1p] 34)) := (Below.refl _ _).alloc (Nat.le_refl _) _
      exact hK _ _ ⟨W.heap.size, rfl, fun k => ex_two (hx0.grow hbb) (hx1.grow hbb) (blk_at rfl) rfl k⟩ (hC.below hbb) (fun j u _ h => Mn.keep hbb h)
    · obtain ⟨vg, hgd, mg⟩ := (hD ⟨14, .guard⟩ (by simp) rfl).2.at_ (d := 25) rfl
      have hgm : vg = .bool true := mg
      subst hgm
      refine ⟨wanted_some rfl rfl hgd, fun K hK => ?_⟩
      obtain ⟨v32, h32, m32⟩ := (hD ⟨21, .data⟩ (by simp) rfl).2.at_ (d := 32) rfl
      obtain ⟨bb, rfl, hkk⟩ := m32
      unfold Oper.wp
      go_simp
      refine (of_b _ _ _ _ W).mono ?_
      rintro e w' ⟨rfl, hb⟩
      exact hK _ _ ⟨_, rfl, (hkk 5).grow hb⟩ (hC.below hb) (fun j u _ h => Mn.keep hb h)
    · obtain ⟨vg, hgd, mg⟩ := (hD ⟨14, .guard⟩ (by simp) rfl).2.at_ (d := 25) rfl
      have hgm : vg = .bool true := mg
      subst hgm
      refine ⟨wanted_some rfl rfl hgd, fun K hK => ?_⟩
      have h2 : act.tmps[2]? = some (.string s) := (hS.at_ 2 (by kernel_rfl)).trans rfl
      unfold Oper.wp
      go_simp
      exact hK _ _ rfl hC (fun j u _ h => Mn.keep (Below.refl _ _) h)
    · obtain ⟨vg, hgd, mg⟩ := (hD ⟨14, .guard⟩ (by simp) rfl).2.at_ (d := 25) rfl
      have hgm : vg = .bool true := mg
      subst hgm
      refine ⟨wanted_some rfl rfl hgd, fun K hK => ?_⟩
      obtain ⟨v26, h26, m26⟩ := (hD ⟨15, .data⟩ (by simp) rfl).2.at_ (d := 26) rfl
      obtain ⟨v29, h29, m29⟩ := (hD ⟨18, .data⟩ (by simp) rfl).2.at_ (d := 29) rfl
      obtain ⟨v33, h33, m33⟩ := (hD ⟨22, .data⟩ (by simp) rfl).2.at_ (d := 33) rfl
      obtain ⟨v34, h34, m34⟩ := (hD ⟨23, .data⟩ (by simp) rfl).2.at_ (d := 34) rfl
      have hm0 : v26 = .agg #[.slice A g.length cp] := m26
      have hm3 : v34 = .string s := m34
      subst hm0 hm3
      obtain ⟨csa, rfl, hxa⟩ := m29
      obtain ⟨csb, rfl, hxb⟩ := m33
      unfold Oper.wp
      go_simp
      refine (alike_any s (HG.out.grow hC.bel) hxa hxb hg HWF.out (wf_1 (by unfold I64; omega) hwa) (wf_2 (by unfold I64; omega) hwa (wf_1 (by unfold I64; omega) hwa)) (fun _ => same_plus)).mono ?_
      rintro e w' ⟨rfl, hb⟩
      exact hK _ _ rfl (hC.below hb) (fun j u _ h => Mn.keep hb h)
    · refine ⟨rfl, fun K hK => ?_⟩
      obtain ⟨v25, h25, m25⟩ := (hD ⟨14, .data⟩ (by simp) rfl).2.at_ (d := 25) rfl
      obtain ⟨v35, h35, m35⟩ := (hD ⟨24, .data⟩ (by simp) rfl).2.at_ (d := 35) rfl
      have hm1 : v25 = .bool true := m25
      have hm2 : v35 = .bool true := m35
      subst hm1 hm2
      unfold Oper.wp
      go_simp
      exact hK _ _ rfl hC (fun j u _ h => Mn.keep (Below.refl _ _) h)
    · refine ⟨rfl, fun K hK => ?_⟩
      obtain ⟨v36, h36, m36⟩ := (hD ⟨25, .data⟩ (by simp) rfl).2.at_ (d := 36) rfl
      have hm : v36 = .bool true := m36
      subst hm
      unfold Oper.wp
      go_simp
      exact hK _ _ rfl hC (fun j u _ h => Mn.keep (Below.refl _ _) h)
    · obtain ⟨vg, hgd, mg⟩ := (hD ⟨26, .guard⟩ (by simp) rfl).2.at_ (d := 37) rfl
      have hgm : vg = .bool true := mg
      subst hgm
      refine ⟨wanted_some rfl rfl hgd, fun K hK => ?_⟩
      have h3 : act.tmps[3]? = some (.pointer (some ⟨w.heap.size, 0, none⟩)) := (hS.at_ 3 (by kernel_rfl)).trans rfl
      have g0 : W.cell? ⟨w.heap.size, 0, none⟩ = some (.slice A g.length cp) := hC.g.cell 0
      unfold Oper.wp
      go_simp
      exact hK _ _ rfl hC (fun j u _ h => Mn.keep (Below.refl _ _) h)
    · obtain ⟨vg, hgd, mg⟩ := (hD ⟨26, .guard⟩ (by simp) rfl).2.at_ (d := 37) rfl
      have hgm : vg = .bool true := mg
      subst hgm
      refine ⟨wanted_some rfl rfl hgd, fun K hK => ?_⟩
      have h7 : act.tmps[7]? = some (.pointer (some ⟨wb.heap.size, 0, none⟩)) := (hS.at_ 7 (by kernel_rfl)).trans rfl
      have hbx := hC.ex 1 _ rfl
      have x0 : W.cell? ⟨wb.heap.size, 0, none⟩ = some (.int .i64 7) := hbx.cell 0; have x1 : W.cell? ⟨wb.heap.size, 1, none⟩ = some (.int .u64 0) := hbx.cell 1; have x2 : W.cell? ⟨wb.heap.size, 2, none⟩ = some (.int .u64 0) := hbx.cell 2; have x3 : W.cell? ⟨wb.heap.size, 3, none⟩ = some (.int .u64 0) := hbx.cell 3; have x4 : W.cell? ⟨wb.heap.size, 4, none⟩ = some (.int .u64 0) := hbx.cell 4; have x5 : W.cell? ⟨wb.heap.size, 5, none⟩ = some (.string ⟨#[]⟩) := hbx.cell 5; have x6 : W.cell? ⟨wb.heap.size, 6, none⟩ = some (.slice (some ⟨w.heap.size + 1 + 1, 0, none⟩) 1 1) := hbx.cell 6
      unfold Oper.wp
      go_simp
      exact hK _ _ ⟨_, rfl, HB.out.grow hC.bel⟩ hC (fun j u _ h => Mn.keep (Below.refl _ _) h)
    · obtain ⟨vg, hgd, mg⟩ := (hD ⟨26, .guard⟩ (by simp) rfl).2.at_ (d := 37) rfl
      have hgm : vg = .bool true := mg
      subst hgm
      refine ⟨wanted_some rfl rfl hgd, fun K hK => ?_⟩
      have h4 : act.tmps[4]? = some (.pointer (some ⟨w.heap.size + 1, 0, none⟩)) := (hS.at_ 4 (by kernel_rfl)).trans rfl
      have hbx := hC.ex 0 _ rfl
      have x0 : W.cell? ⟨w.heap.size + 1, 0, none⟩ = some (.int .i64 ak) := hbx.cell 0; have x1 : W.cell? ⟨w.heap.size + 1, 1, none⟩ = some (.int .u64 a1) := hbx.cell 1; have x2 : W.cell? ⟨w.heap.size + 1, 2, none⟩ = some (.int .u64 a2) := hbx.cell 2; have x3 : W.cell? ⟨w.heap.size + 1, 3, none⟩ = some (.int .u64 a3) := hbx.cell 3; have x4 : W.cell? ⟨w.heap.size + 1, 4, none⟩ = some (.int .u64 a4) := hbx.cell 4; have x5 : W.cell? ⟨w.heap.size + 1, 5, none⟩ = some (.string ats) := hbx.cell 5; have x6 : W.cell? ⟨w.heap.size + 1, 6, none⟩ = some (.slice aA an ap) := hbx.cell 6
      unfold Oper.wp
      go_simp
      exact hK _ _ ⟨_, rfl, HA.out.grow hC.bel⟩ hC (fun j u _ h => Mn.keep (Below.refl _ _) h)
    · obtain ⟨vg, hgd, mg⟩ := (hD ⟨26, .guard⟩ (by simp) rfl).2.at_ (d := 37) rfl
      have hgm : vg = .bool true := mg
      subst hgm
      refine ⟨wanted_some rfl rfl hgd, fun K hK => ?_⟩
      obtain ⟨v39, h39, m39⟩ := (hD ⟨28, .data⟩ (by simp) rfl).2.at_ (d := 39) rfl
      obtain ⟨v40, h40, m40⟩ := (hD ⟨29, .data⟩ (by simp) rfl).2.at_ (d := 40) rfl
      obtain ⟨cs0, rfl, hx0⟩ := m39
      obtain ⟨p0k, p0a, p0b, p0c, p0d, p0t, p0A, p0n, p0p, hc0⟩ := Ex.parts _ hx0
      subst hc0
      obtain ⟨cs1, rfl, hx1⟩ := m40
      obtain ⟨p1k, p1a, p1b, p1c, p1d, p1t, p1A, p1n, p1p, hc1⟩ := Ex.parts _ hx1
      subst hc1
      unfold Oper.wp
      go_simp
      have hbb : Below W.heap.size W (W.alloc (.cells #[.int .i64 p0k, .int .u64 p0a, .int .u64 p0b, .int .u64 p0c, .int .u64 p0d, .string p0t, .slice p0A p0n p0p, .int .i64 p1k, .int .u64 p1a, .int .u64 p1b, .int .u64 p1c, .int .u64 p1d, .string p1t, .slice p1A p1n p1p] 34)) := (Below.refl _ _).alloc (Nat.le_refl _) _
      exact hK _ _ ⟨W.heap.size, rfl, fun k => ex_two (hx0.grow hbb) (hx1.grow hbb) (blk_at rfl) rfl k⟩ (hC.below hbb) (fun j u _ h => Mn.keep hbb h)
    · obtain ⟨vg, hgd, mg⟩ := (hD ⟨26, .guard⟩ (by simp) rfl).2.at_ (d := 37) rfl
      have hgm : vg = .bool true := mg
      subst hgm
      refine ⟨wanted_some rfl rfl hgd, fun K hK => ?_⟩
      obtain ⟨v41, h41, m41⟩ := (hD ⟨30, .data⟩ (by simp) rfl).2.at_ (d := 41) rfl
      obtain ⟨bb, rfl, hkk⟩ := m41
      unfold Oper.wp
      go_simp
      refine (of_b _ _ _ _ W).mono ?_
      rintro e w' ⟨rfl, hb⟩
      exact hK _ _ ⟨_, rfl, (hkk 5).grow hb⟩ (hC.below hb) (fun j u _ h => Mn.keep hb h)
    · obtain ⟨vg, hgd, mg⟩ := (hD ⟨26, .guard⟩ (by simp) rfl).2.at_ (d := 37) rfl
      have hgm : vg = .bool true := mg
      subst hgm
      refine ⟨wanted_some rfl rfl hgd, fun K hK => ?_⟩
      unfold Oper.wp
      go_simp
      exact hK _ _ ⟨_, rfl, emptyX_is _⟩ hC (fun j u _ h => Mn.keep (Below.refl _ _) h)
    · obtain ⟨vg, hgd, mg⟩ := (hD ⟨26, .guard⟩ (by simp) rfl).2.at_ (d := 37) rfl
      have hgm : vg = .bool true := mg
      subst hgm
      refine ⟨wanted_some rfl rfl hgd, fun K hK => ?_⟩
      obtain ⟨v43, h43, m43⟩ := (hD ⟨32, .data⟩ (by simp) rfl).2.at_ (d := 43) rfl
      obtain ⟨cs0, rfl, hx0⟩ := m43
      obtain ⟨p0k, p0a, p0b, p0c, p0d, p0t, p0A, p0n, p0p, hc0⟩ := Ex.parts _ hx0
      subst hc0
      unfold Oper.wp
      go_simp
      have hbb : Below W.heap.size W (W.alloc (.cells #[.int .i64 p0k, .int .u64 p0a, .int .u64 p0b, .int .u64 p0c, .int .u64 p0d, .string p0t, .slice p0A p0n p0p] 34)) := (Below.refl _ _).alloc (Nat.le_refl _) _
      exact hK _ _ ⟨W.heap.size, rfl, fun k => ex_one (hx0.grow hbb) (blk_at rfl) rfl k⟩ (hC.below hbb) (fun j u _ h => Mn.keep hbb h)
    · obtain ⟨vg, hgd, mg⟩ := (hD ⟨26, .guard⟩ (by simp) rfl).2.at_ (d := 37) rfl
      have hgm : vg = .bool true := mg
      subst hgm
      refine ⟨wanted_some rfl rfl hgd, fun K hK => ?_⟩
      obtain ⟨v44, h44, m44⟩ := (hD ⟨33, .data⟩ (by simp) rfl).2.at_ (d := 44) rfl
      obtain ⟨bb, rfl, hkk⟩ := m44
      unfold Oper.wp
      go_simp
      refine (of_b _ _ _ _ W).mono ?_
      rintro e w' ⟨rfl, hb⟩
      exact hK _ _ ⟨_, rfl, (hkk 11).grow hb⟩ (hC.below hb) (fun j u _ h => Mn.keep hb h)
    · obtain ⟨vg, hgd, mg⟩ := (hD ⟨26, .guard⟩ (by simp) rfl).2.at_ (d := 37) rfl
      have hgm : vg = .bool true := mg
      subst hgm
      refine ⟨wanted_some rfl rfl hgd, fun K hK => ?_⟩
      have h2 : act.tmps[2]? = some (.string s) := (hS.at_ 2 (by kernel_rfl)).trans rfl
      unfold Oper.wp
      go_simp
      exact hK _ _ rfl hC (fun j u _ h => Mn.keep (Below.refl _ _) h)
    · obtain ⟨vg, hgd, mg⟩ := (hD ⟨26, .guard⟩ (by simp) rfl).2.at_ (d := 37) rfl
      have hgm : vg = .bool true := mg
      subst hgm
      refine ⟨wanted_some rfl rfl hgd, fun K hK => ?_⟩
      obtain ⟨v38, h38, m38⟩ := (hD ⟨27, .data⟩ (by simp) rfl).2.at_ (d := 38) rfl
      obtain ⟨v42, h42, m42⟩ := (hD ⟨31, .data⟩ (by simp) rfl).2.at_ (d := 42) rfl
      obtain ⟨v45, h45, m45⟩ := (hD ⟨34, .data⟩ (by simp) rfl).2.at_ (d := 45) rfl
      obtain ⟨v46, h46, m46⟩ := (hD ⟨35, .data⟩ (by simp) rfl).2.at_ (d := 46) rfl
      have hm0 : v38 = .agg #[.slice A g.length cp] := m38
      have hm3 : v46 = .string s := m46
      subst hm0 hm3
      obtain ⟨csa, rfl, hxa⟩ := m42
      obtain ⟨csb, rfl, hxb⟩ := m45
      unfold Oper.wp
      go_simp
      refine (alike_any s (HG.out.grow hC.bel) hxa hxb hg HWF.out (wf_2 (by unfold I64; omega) (wf_1 (by unfold I64; omega) hwa) hwa) (wf_1 (by unfold I64; omega) wf_empty) (fun _ => same_never)).mono ?_
      rintro e w' ⟨rfl, hb⟩
      exact hK _ _ rfl (hC.below hb) (fun j u _ h => Mn.keep hb h)
    · refine ⟨rfl, fun K hK => ?_⟩
      obtain ⟨v37, h37, m37⟩ := (hD ⟨26, .data⟩ (by simp) rfl).2.at_ (d := 37) rfl
      obtain ⟨v47, h47, m47⟩ := (hD ⟨36, .data⟩ (by simp) rfl).2.at_ (d := 47) rfl
      have hm1 : v37 = .bool true := m37
      have hm2 : v47 = .bool true := m47
      subst hm1 hm2
      unfold Oper.wp
      go_simp
      exact hK _ _ rfl hC (fun j u _ h => Mn.keep (Below.refl _ _) h)
    · refine ⟨rfl, fun K hK => ?_⟩
      obtain ⟨v48, h48, m48⟩ := (hD ⟨37, .data⟩ (by simp) rfl).2.at_ (d := 48) rfl
      have hm : v48 = .bool true := m48
      subst hm
      unfold Oper.wp
      go_simp
      exact hK _ _ rfl hC (fun j u _ h => Mn.keep (Below.refl _ _) h)
  · intro listed act W hC hS hl hM
    obtain ⟨v6, h6, m6⟩ := (hM 38 (by omega)).at_ (d := 6) rfl
    have hm : v6 = .bool true := m6
    subst hm
    go_wp2
    exact bodyPost_ret (v := .bool true) (by simp [results, Try.results12, go_sem, h6]) hS.1 ⟨rfl, hw0.trans (hC.bel.mono hw0.size)⟩
end Go.Proofs.Ytapihikbdcplaaa
