/- The walk of the law PackSeqs. -/
import Derived.Test.YtapihikbdcplaaaWhE
namespace Go.Proofs.Ytapihikbdcplaaa
open Go.RowKit Go.Maps

set_option maxRecDepth 100000 in
set_option maxHeartbeats 32000000 in
theorem walk_PackSeqs {g : List Rl} {A : Option Addr} {cp : Nat} {row : Nat → List Value} {ea eb ec : Ex} {ca cb cc : List Value} (s : ByteArray) (w : World) (h : GrIs w w.heap.size g A cp row) (hwf : ∀ r ∈ g, WfE r.2) (hg : g.length ≤ 1466015503690)
    (ha : ExIs w w.heap.size ea ca) (hwa : WfE ea) (hb : ExIs w w.heap.size eb cb) (hwb : WfE eb) (hc : ExIs w w.heap.size ec cc) (hwc : WfE ec) :
    Calls Try.prog 9 #[.agg #[.slice A g.length cp], .agg ca.toArray, .agg cb.toArray, .agg cc.toArray, .string s] w fun e w' => e = .returned (.bool true) ∧ Below w.heap.size w w' := by
  obtain ⟨ak, a1, a2, a3, a4, ats, aA, an, ap, rfl⟩ := Ex.parts _ ha
  obtain ⟨bk, b1, b2, b3, b4, bts, bA, bn, bp, rfl⟩ := Ex.parts _ hb
  obtain ⟨ck, c1, c2, c3, c4, cts, cA, cn, cpp, rfl⟩ := Ex.parts _ hc
  have HWF := Lib.hid hwf
  have HG0 := Lib.hid h
  have HA0 := Lib.hid ha
  have HB0 := Lib.hid hb
  have HC0 := Lib.hid hc
  clear h hwf ha hb hc
  go_enter Try.func9, Try.ntmps9
  go_wp2_with fail
  have hw0 : Below w.heap.size w ((((w.alloc (.cells #[.slice A g.length cp] 24)).alloc (.cells #[.int .i64 ak, .int .u64 a1, .int .u64 a2, .int .u64 a3, .int .u64 a4, .string ats, .slice aA an ap] 34)).alloc (.cells #[.int .i64 bk, .int .u64 b1, .int .u64 b2, .int .u64 b3, .int .u64 b4, .string bts, .slice bA bn bp] 34)).alloc (.cells #[.int .i64 ck, .int .u64 c1, .int .u64 c2, .int .u64 c3, .int .u64 c4, .string cts, .slice cA cn cpp] 34)) := (by repeat (first | exact Below.refl _ _ | assumption | refine Below.drew ?_ | refine below_drewN ?_ _ | refine Below.alloc ?_ (by first | omega | (simp; omega) | simp) _ | refine Below.setCell ?_ (by first | omega | (simp; omega) | simp) _))
  have hgx : Blk ((((w.alloc (.cells #[.slice A g.length cp] 24)).alloc (.cells #[.int .i64 ak, .int .u64 a1, .int .u64 a2, .int .u64 a3, .int .u64 a4, .string ats, .slice aA an ap] 34)).alloc (.cells #[.int .i64 bk, .int .u64 b1, .int .u64 b2, .int .u64 b3, .int .u64 b4, .string bts, .slice bA bn bp] 34)).alloc (.cells #[.int .i64 ck, .int .u64 c1, .int .u64 c2, .int .u64 c3, .int .u64 c4, .string cts, .slice cA cn cpp] 34)) w.heap.size 24 #[.slice A g.length cp] := (((blk_at rfl).alloc _).alloc _).alloc _
  have hax : Blk ((((w.alloc (.cells #[.slice A g.length cp] 24)).alloc (.cells #[.int .i64 ak, .int .u64 a1, .int .u64 a2, .int .u64 a3, .int .u64 a4, .string ats, .slice aA an ap] 34)).alloc (.cells #[.int .i64 bk, .int .u64 b1, .int .u64 b2, .int .u64 b3, .int .u64 b4, .string bts, .slice bA bn bp] 34)).alloc (.cells #[.int .i64 ck, .int .u64 c1, .int .u64 c2, .int .u64 c3, .int .u64 c4, .string cts, .slice cA cn cpp] 34)) (w.heap.size + 1) 34 #[.int .i64 ak, .int .u64 a1, .int .u64 a2, .int .u64 a3, .int .u64 a4, .string ats, .slice aA an ap] := ((blk_at (by simp)).alloc _).alloc _
  have hbx : Blk ((((w.alloc (.cells #[.slice A g.length cp] 24)).alloc (.cells #[.int .i64 ak, .int .u64 a1, .int .u64 a2, .int .u64 a3, .int .u64 a4, .string ats, .slice aA an ap] 34)).alloc (.cells #[.int .i64 bk, .int .u64 b1, .int .u64 b2, .int .u64 b3, .int .u64 b4, .string bts, .slice bA bn bp] 34)).alloc (.cells #[.int .i64 ck, .int .u64 c1, .int .u64 c2, .int .u64 c3, .int .u64 c4, .string cts, .slice cA cn cpp] 34)) (w.heap.size + 1 + 1) 34 #[.int .i64 bk, .int .u64 b1, .int .u64 b2, .int .u64 b3, .int .u64 b4, .string bts, .slice bA bn bp] := (blk_at (by simp)).alloc _
  have hcx : Blk ((((w.alloc (.cells #[.slice A g.length cp] 24)).alloc (.cells #[.int .i64 ak, .int .u64 a1, .int .u64 a2, .int .u64 a3, .int .u64 a4, .string ats, .slice aA an ap] 34)).alloc (.cells #[.int .i64 bk, .int .u64 b1, .int .u64 b2, .int .u64 b3, .int .u64 b4, .string bts, .slice bA bn bp] 34)).alloc (.cells #[.int .i64 ck, .int .u64 c1, .int .u64 c2, .int .u64 c3, .int .u64 c4, .string cts, .slice cA cn cpp] 34)) (w.heap.size + 1 + 1 + 1) 34 #[.int .i64 ck, .int .u64 c1, .int .u64 c2, .int .u64 c3, .int .u64 c4, .string cts, .slice cA cn cpp] := blk_at (by simp)
  generalize ((((w.alloc (.cells #[.slice A g.length cp] 24)).alloc (.cells #[.int .i64 ak, .int .u64 a1, .int .u64 a2, .int .u64 a3, .int .u64 a4, .string ats, .slice aA an ap] 34)).alloc (.cells #[.int .i64 bk, .int .u64 b1, .int .u64 b2, .int .u64 b3, .int .u64 b4, .string bts, .slice bA bn bp] 34)).alloc (.cells #[.int .i64 ck, .int .u64 c1, .int .u64 c2, .int .u64 c3, .int .u64 c4, .string cts, .slice cA cn cpp] 34)) = w0 at hw0 hgx hax hbx hcx ⊢
  have HG := Lib.hid (HG0.out.grow hw0)
  have HA := Lib.hid (HA0.out.grow hw0)
  have HB := Lib.hid (HB0.out.grow hw0)
  have HC := Lib.hid (HC0.out.grow hw0)
  have hC0 : LawC w0 w.heap.size g.length A cp [(w.heap.size + 1, [.int .i64 ak, .int .u64 a1, .int .u64 a2, .int .u64 a3, .int .u64 a4, .string ats, .slice aA an ap]), (w.heap.size + 1 + 1, [.int .i64 bk, .int .u64 b1, .int .u64 b2, .int .u64 b3, .int .u64 b4, .string bts, .slice bA bn bp]), (w.heap.size + 1 + 1 + 1, [.int .i64 ck, .int .u64 c1, .int .u64 c2, .int .u64 c3, .int .u64 c4, .string cts, .slice cA cn cpp])] w0 :=
    ⟨Below.refl _ _, hgx, fun i p hp => by
      match i, hp with
      | 0, hp => simp only [List.getElem?_cons_zero, Option.some.injEq] at hp; subst hp; exact hax
      | 1, hp => simp only [List.getElem?_cons_succ, List.getElem?_cons_zero, Option.some.injEq] at hp; subst hp; exact hbx
      | 2, hp => simp only [List.getElem?_cons_succ, List.getElem?_cons_zero, Option.some.injEq] at hp; subst hp; exact hcx
      | n + 3, hp => simp at hp⟩
  clear HG0 HA0 HB0 HC0 hgx hax hbx hcx
  refine wp_region_all (LawC w0 w.heap.size g.length A cp [(w.heap.size + 1, [.int .i64 ak, .int .u64 a1, .int .u64 a2, .int .u64 a3, .int .u64 a4, .string ats, .slice aA an ap]), (w.heap.size + 1 + 1, [.int .i64 bk, .int .u64 b1, .int .u64 b2, .int .u64 b3, .int .u64 b4, .string bts, .slice bA bn bp]), (w.heap.size + 1 + 1 + 1, [.int .i64 ck, .int .u64 c1, .int .u64 c2, .int .u64 c3, .int .u64 c4, .string cts, .slice cA cn cpp])]) (mnM [.v (.bool true), .v (.bool true), .v (.agg #[.slice A g.length cp]), .e ea, .e eb, .k [ea, eb], .e (ofN 5 [ea, eb]), .e ec, .k [(ofN 5 [ea, eb]), ec], .e (ofN 5 [(ofN 5 [ea, eb]), ec]), .e ea, .e eb, .e ec, .k [eb, ec], .e (ofN 5 [eb, ec]), .k [ea, (ofN 5 [eb, ec])], .e (ofN 5 [ea, (ofN 5 [eb, ec])]), .v (.string s), .v (.bool true), .v (.bool true), .v (.bool true), .v (.agg #[.slice A g.length cp]), .e ea, .e eb, .k [ea, eb], .e (ofN 6 [ea, eb]), .e ec, .k [(ofN 6 [ea, eb]), ec], .e (ofN 6 [(ofN 6 [ea, eb]), ec]), .e ea, .e eb, .e ec, .k [eb, ec], .e (ofN 6 [eb, ec]), .k [ea, (ofN 6 [eb, ec])], .e (ofN 6 [ea, (ofN 6 [eb, ec])]), .v (.string s), .v (.bool true), .v (.bool true), .v (.bool true), .v (.agg #[.slice A g.length cp]), .e ea, .k [ea], .e (ofN 9 [ea]), .e emptyX, .k [(ofN 9 [ea]), emptyX], .e (ofN 5 [(ofN 9 [ea]), emptyX]), .e ea, .k [ea], .e (ofN 9 [ea]), .v (.string s), .v (.bool true), .v (.bool true), .v (.bool true)]) 54 rfl (by kernel_rfl) (by kernel_rfl) (by kernel_rfl) (by kernel_rfl) (hC0.below ((Below.refl _ _).drew)) ?_ ?_
  · intro i o hi ho
    have hiN : i = 0 ∨ i = 1 ∨ i = 2 ∨ i = 3 ∨ i = 4 ∨ i = 5 ∨ i = 6 ∨ i = 7 ∨ i = 8 ∨ i = 9 ∨ i = 10 ∨ i = 11 ∨ i = 12 ∨ i = 13 ∨ i = 14 ∨ i = 15 ∨ i = 16 ∨ i = 17 ∨ i = 18 ∨ i = 19 ∨ i = 20 ∨ i = 21 ∨ i = 22 ∨ i = 23 ∨ i = 24 ∨ i = 25 ∨ i = 26 ∨ i = 27 ∨ i = 28 ∨ i = 29 ∨ i = 30 ∨ i = 31 ∨ i = 32 ∨ i = 33 ∨ i = 34 ∨ i = 35 ∨ i = 36 ∨ i = 37 ∨ i = 38 ∨ i = 39 ∨ i = 40 ∨ i = 41 ∨ i = 42 ∨ i = 43 ∨ i = 44 ∨ i = 45 ∨ i = 46 ∨ i = 47 ∨ i = 48 ∨ i = 49 ∨ i = 50 ∨ i = 51 ∨ i = 52 ∨ i = 53 := by omega
    rcases hiN with rfl | rfl | rfl | rfl | rfl | rfl | rfl | rfl | rfl | rfl | rfl | rfl | rfl | rfl | rfl | rfl | rfl | rfl | rfl | rfl | rfl | rfl | rfl | rfl | rfl | rfl | rfl | rfl | rfl | rfl | rfl | rfl | rfl | rfl | rfl | rfl | rfl | rfl | rfl | rfl | rfl | rfl | rfl | rfl | rfl | rfl | rfl | rfl | rfl | rfl | rfl | rfl | rfl | rfl
    all_goals
      simp only [List.getElem?_toArray, List.getElem?_cons_zero, List.getElem?_cons_succ, Option.some.injEq] at ho
      subst ho
      intro listed act W hls hun hC hS hD
    · refine ⟨rfl, fun K hK => ?_⟩
      unfold Oper.wp
      go_simp
      refine (sound_b W).mono ?_
      rintro e w' ⟨rfl, hb⟩
      exact hK _ _ rfl (hC.below hb) (fun j u _ h => Mn.keep hb h)
    · refine ⟨rfl, fun K hK => ?_⟩
      obtain ⟨v11, h11, m11⟩ := (hD ⟨0, .data⟩ (by simp) rfl).2.at_ (d := 11) rfl
      have hm : v11 = .bool true := m11
      subst hm
      unfold Oper.wp
      go_simp
      exact hK _ _ rfl hC (fun j u _ h => Mn.keep (Below.refl _ _) h)
    · obtain ⟨vg, hgd, mg⟩ := (hD ⟨1, .guard⟩ (by simp) rfl).2.at_ (d := 12) rfl
      have hgm : vg = .bool true := mg
      subst hgm
      refine ⟨wanted_some rfl rfl hgd, fun K hK => ?_⟩
      have h5 : act.tmps[5]? = some (.pointer (some ⟨w.heap.size, 0, none⟩)) := (hS.at_ 5 (by kernel_rfl)).trans rfl
      have g0 : W.cell? ⟨w.heap.size, 0, none⟩ = some (.slice A g.length cp) := hC.g.cell 0
      unfold Oper.wp
      go_simp
      exact hK _ _ rfl hC (fun j u _ h => Mn.keep (Below.refl _ _) h)
    · obtain ⟨vg, hgd, mg⟩ := (hD ⟨1, .guard⟩ (by simp) rfl).2.at_ (d := 12) rfl
      have hgm : vg = .bool true := mg
      subst hgm
      refine ⟨wanted_some rfl rfl hgd, fun K hK => ?_⟩
      have h6 : act.tmps[6]? = some (.pointer (some ⟨w.heap.size + 1, 0, none⟩)) := (hS.at_ 6 (by kernel_rfl)).trans rfl
      have hbx := hC.ex 0 _ rfl
      have x0 : W.cell? ⟨w.heap.size + 1, 0, none⟩ = some (.int .i64 ak) := hbx.cell 0; have x1 : W.cell? ⟨w.heap.size + 1, 1, none⟩ = some (.int .u64 a1) := hbx.cell 1; have x2 : W.cell? ⟨w.heap.size + 1, 2, none⟩ = some (.int .u64 a2) := hbx.cell 2; have x3 : W.cell? ⟨w.heap.size + 1, 3, none⟩ = some (.int .u64 a3) := hbx.cell 3; have x4 : W.cell? ⟨w.heap.size + 1, 4, none⟩ = some (.int .u64 a4) := hbx.cell 4; have x5 : W.cell? ⟨w.heap.size + 1, 5, none⟩ = some (.string ats) := hbx.cell 5; have x6 : W.cell? ⟨w.heap.size + 1, 6, none⟩ = some (.slice aA an ap) := hbx.cell 6
      unfold Oper.wp
      go_simp
      exact hK _ _ ⟨_, rfl, HA.out.grow hC.bel⟩ hC (fun j u _ h => Mn.keep (Below.refl _ _) h)
    · obtain ⟨vg, hgd, mg⟩ := (hD ⟨1, .guard⟩ (by simp) rfl).2.at_ (d := 12) rfl
      have hgm : vg = .bool true := mg
      subst hgm
      refine ⟨wanted_some rfl rfl hgd, fun K hK => ?_⟩
      have h7 : act.tmps[7]? = some (.pointer (some ⟨w.heap.size + 1 + 1, 0, none⟩)) := (hS.at_ 7 (by kernel_rfl)).trans rfl
      have hbx := hC.ex 1 _ rfl
      have x0 : W.cell? ⟨w.heap.size + 1 + 1, 0, none⟩ = some (.int .i64 bk) := hbx.cell 0; have x1 : W.cell? ⟨w.heap.size + 1 + 1, 1, none⟩ = some (.int .u64 b1) := hbx.cell 1; have x2 : W.cell? ⟨w.heap.size + 1 + 1, 2, none⟩ = some (.int .u64 b2) := hbx.cell 2; have x3 : W.cell? ⟨w.heap.size + 1 + 1, 3, none⟩ = some (.int .u64 b3) := hbx.cell 3; have x4 : W.cell? ⟨w.heap.size + 1 + 1, 4, none⟩ = some (.int .u64 b4) := hbx.cell 4; have x5 : W.cell? ⟨w.heap.size + 1 + 1, 5, none⟩ = some (.string bts) := hbx.cell 5; have x6 : W.cell? ⟨w.heap.size + 1 + 1, 6, none⟩ = some (.slice bA bn bp) := hbx.cell 6
      unfold Oper.wp
      go_simp
      exact hK _ _ ⟨_, rfl, HB.out.grow hC.bel⟩ hC (fun j u _ h => Mn.keep (Below.refl _ _) h)
    · obtain ⟨vg, hgd, mg⟩ := (hD ⟨1, .guard⟩ (by simp) rfl).2.at_ (d := 12) rfl
      have hgm : vg = .bool true := mg
      subst hgm
      refine ⟨wanted_some rfl rfl hgd, fun K hK => ?_⟩
      obtain ⟨v14, h14, m14⟩ := (hD ⟨3, .data⟩ (by simp) rfl).2.at_ (d := 14) rfl
      obtain ⟨v15, h15, m15⟩ := (hD ⟨4, .data⟩ (by simp) rfl).2.at_ (d := 15) rfl
      obtain ⟨cs0, rfl, hx0⟩ := m14
      obtain ⟨p0k, p0a, p0b, p0c, p0d, p0t, p0A, p0n, p0p, hc0⟩ := Ex.parts _ hx0
      subst hc0
      obtain ⟨cs1, rfl, hx1⟩ := m15
      obtain ⟨p1k, p1a, p1b, p1c, p1d, p1t, p1A, p1n, p1p, hc1⟩ := Ex.parts _ hx1
      subst hc1
      unfold Oper.wp
      go_simp
      have hbb : Below W.heap.size W (W.alloc (.cells #[.int .i64 p0k, .int .u64 p0a, .int .u64 p0b, .int .u64 p0c, .int .u64 p0d, .string p0t, .slice p0A p0n p0p, .int .i64 p1k, .int .u64 p1a, .int .u64 p1b, .int .u64 p1c, .int .u64 p1d, .string p1t, .slice p1A p1n p1p] 34)) := (Below.refl _ _).alloc (Nat.le_refl _) _
      exact hK _ _ ⟨W.heap.size, rfl, fun k => ex_two (hx0.grow hbb) (hx1.grow hbb) (blk_at rfl) rfl k⟩ (hC.below hbb) (fun j u _ h => Mn.keep hbb h)
    · obtain ⟨vg, hgd, mg⟩ := (hD ⟨1, .guard⟩ (by simp) rfl).2.at_ (d := 12) rfl
      have hgm : vg = .bool true := mg
      subst hgm
      refine ⟨wanted_some rfl rfl hgd, fun K hK => ?_⟩
      obtain ⟨v16, h16, m16⟩ := (hD ⟨5, .data⟩ (by simp) rfl).2.at_ (d := 16) rfl
      obtain ⟨bb, rfl, hkk⟩ := m16
      unfold Oper.wp
      go_simp
      refine (of_b _ _ _ _ W).mono ?_
      rintro e w' ⟨rfl, hb⟩
      exact hK _ _ ⟨_, rfl, (hkk 5).grow hb⟩ (hC.below hb) (fun j u _ h => Mn.keep hb h)
    · obtain ⟨vg, hgd, mg⟩ := (hD ⟨1, .guard⟩ (by simp) rfl).2.at_ (d := 12) rfl
      have hgm : vg = .bool true := mg
      subst hgm
      refine ⟨wanted_some rfl rfl hgd, fun K hK => ?_⟩
      have h8 : act.tmps[8]? = some (.pointer (some ⟨w.heap.size + 1 + 1 + 1, 0, none⟩)) := (hS.at_ 8 (by kernel_rfl)).trans rfl
      have hbx := hC.ex 2 _ rfl
      have x0 : W.cell? ⟨w.heap.size + 1 + 1 + 1, 0, none⟩ = some (.int .i64 ck) := hbx.cell 0; have x1 : W.cell? ⟨w.heap.size + 1 + 1 + 1, 1, none⟩ = some (.int .u64 c1) := hbx.cell 1; have x2 : W.cell? ⟨w.heap.size + 1 + 1 + 1, 2, none⟩ = some (.int .u64 c2) := hbx.cell 2; have x3 : W.cell? ⟨w.heap.size + 1 + 1 + 1, 3, none⟩ = some (.int .u64 c3) := hbx.cell 3; have x4 : W.cell? ⟨w.heap.size + 1 + 1 + 1, 4, none⟩ = some (.int .u64 c4) := hbx.cell 4; have x5 : W.cell? ⟨w.heap.size + 1 + 1 + 1, 5, none⟩ = some (.string cts) := hbx.cell 5; have x6 : W.cell? ⟨w.heap.size + 1 + 1 + 1, 6, none⟩ = some (.slice cA cn cpp) := hbx.cell 6
      unfold Oper.wp
      go_simp
      exact hK _ _ ⟨_, rfl, HC.out.grow hC.bel⟩ hC (fun j u _ h => Mn.keep (Below.refl _ _) h)
    · obtain ⟨vg, hgd, mg⟩ := (hD ⟨1, .guard⟩ (by simp) rfl).2.at_ (d := 12) rfl
      have hgm : vg = .bool true := mg
      subst hgm
      refine ⟨wanted_some rfl rfl hgd, fun K hK => ?_⟩
      obtain ⟨v17, h17, m17⟩ := (hD ⟨6, .data⟩ (by simp) rfl).2.at_ (d := 17) rfl
      obtain ⟨v18, h18, m18⟩ := (hD ⟨7, .data⟩ (by simp) rfl).2.at_ (d := 18) rfl
      obtain ⟨cs0, rfl, hx0⟩ := m17
      obtain ⟨p0k, p0a, p0b, p0c, p0d, p0t, p0A, p0n, p0p, hc0⟩ := Ex.parts _ hx0
      subst hc0
      obtain ⟨cs1, rfl, hx1⟩ := m18
      obtain ⟨p1k, p1a, p1b, p1c, p1d, p1t, p1A, p1n, p1p, hc1⟩ := Ex.parts _ hx1
      subst hc1
      unfold Oper.wp
      go_simp
      have hbb : Below W.heap.size W (W.alloc (.cells #[.int .i64 p0k, .int .u64 p0a, .int .u64 p0b, .int .u64 p0c, .int .u64 p0d, .string p0t, .slice p0A p0n p0p, .int .i64 p1k, .int .u64 p1a, .int .u64 p1b, .int .u64 p1c, .int .u64 p1d, .string p1t, .slice p1A p1n p1p] 34)) := (Below.refl _ _).alloc (Nat.le_refl _) _
      exact hK _ _ ⟨W.heap.size, rfl, fun k => ex_two (hx0.grow hbb) (hx1.grow hbb) (blk_at rfl) rfl k⟩ (hC.below hbb) (fun j u _ h => Mn.keep hbb h)
    · obtain ⟨vg, hgd, mg⟩ := (hD ⟨1, .guard⟩ (by simp) rfl).2.at_ (d := 12) rfl
      have hgm : vg = .bool true := mg
      subst hgm
      refine ⟨wanted_some rfl rfl hgd, fun K hK => ?_⟩
      obtain ⟨v19, h19, m19⟩ := (hD ⟨8, .data⟩ (by simp) rfl).2.at_ (d := 19) rfl
      obtain ⟨bb, rfl, hkk⟩ := m19
      unfold Oper.wp
      go_simp
      refine (of_b _ _ _ _ W).mono ?_
      rintro e w' ⟨rfl, hb⟩
      exact hK _ _ ⟨_, rfl, (hkk 5).grow hb⟩ (hC.below hb) (fun j u _ h => Mn.keep hb h)
    · obtain ⟨vg, hgd, mg⟩ := (hD ⟨1, .guard⟩ (by simp) rfl).2.at_ (d := 12) rfl
      have hgm : vg = .bool true := mg
      subst hgm
      refine ⟨wanted_some rfl rfl hgd, fun K hK => ?_⟩
      have h6 : act.tmps[6]? = some (.pointer (some ⟨w.heap.size + 1, 0, none⟩)) := (hS.at_ 6 (by kernel_rfl)).trans rfl
      have hbx := hC.ex 0 _ rfl
      have x0 : W.cell? ⟨w.heap.size + 1, 0, none⟩ = some (.int .i64 ak) := hbx.cell 0; have x1 : W.cell? ⟨w.heap.size + 1, 1, none⟩ = some (.int .u64 a1) := hbx.cell 1; have x2 : W.cell? ⟨w.heap.size + 1, 2, none⟩ = some (.int .u64 a2) := hbx.cell 2; have x3 : W.cell? ⟨w.heap.size + 1, 3, none⟩ = some (.int .u64 a3) := hbx.cell 3; have x4 : W.cell? ⟨w.heap.size + 1, 4, none⟩ = some (.int .u64 a4) := hbx.cell 4; have x5 : W.cell? ⟨w.heap.size + 1, 5, none⟩ = some (.string ats) := hbx.cell 5; have x6 : W.cell? ⟨w.heap.size + 1, 6, none⟩ = some (.slice aA an ap) := hbx.cell 6
      unfold Oper.wp
      go_simp
      exact hK _ _ ⟨_, rfl, HA.out.grow hC.bel⟩ hC (fun j u _ h => Mn.keep (Below.refl _ _) h)
    · obtain ⟨vg, hgd, mg⟩ := (hD ⟨1, .guard⟩ (by simp) rfl).2.at_ (d := 12) rfl
      have hgm : vg = .bool true := mg
      subst hgm
      refine ⟨wanted_some rfl rfl hgd, fun K hK => ?_⟩
      have h7 : act.tmps[7]? = some (.pointer (some ⟨w.heap.size + 1 + 1, 0, none⟩)) := (hS.at_ 7 (by kernel_rfl)).trans rfl
      have hbx := hC.ex 1 _ rfl
      have x0 : W.cell? ⟨w.heap.size + 1 + 1, 0, none⟩ = some (.int .i64 bk) := hbx.cell 0; have x1 : W.cell? ⟨w.heap.size + 1 + 1, 1, none⟩ = some (.int .u64 b1) := hbx.cell 1; have x2 : W.cell? ⟨w.heap.size + 1 + 1, 2, none⟩ = some (.int .u64 b2) := hbx.cell 2; have x3 : W.cell? ⟨w.heap.size + 1 + 1, 3, none⟩ = some (.int .u64 b3) := hbx.cell 3; have x4 : W.cell? ⟨w.heap.size + 1 + 1, 4, none⟩ = some (.int .u64 b4) := hbx.cell 4; have x5 : W.cell? ⟨w.heap.size + 1 + 1, 5, none⟩ = some (.string bts) := hbx.cell 5; have x6 : W.cell? ⟨w.heap.size + 1 + 1, 6, none⟩ = some (.slice bA bn bp) := hbx.cell 6
      unfold Oper.wp
      go_simp
      exact hK _ _ ⟨_, rfl, HB.out.grow hC.bel⟩ hC (fun j u _ h => Mn.keep (Below.refl _ _) h)
    · obtain ⟨vg, hgd, mg⟩ := (hD ⟨1, .guard⟩ (by simp) rfl).2.at_ (d := 12) rfl
      have hgm : vg = .bool true := mg
      subst hgm
      refine ⟨wanted_some rfl rfl hgd, fun K hK => ?_⟩
      have h8 : act.tmps[8]? = some (.pointer (some ⟨w.heap.size + 1 + 1 + 1, 0, none⟩)) := (hS.at_ 8 (by kernel_rfl)).trans rfl
      have hbx := hC.ex 2 _ rfl
      have x0 : W.cell? ⟨w.heap.size + 1 + 1 + 1, 0, none⟩ = some (.int .i64 ck) := hbx.cell 0; have x1 : W.cell? ⟨w.heap.size + 1 + 1 + 1, 1, none⟩ = some (.int .u64 c1) := hbx.cell 1; have x2 : W.cell? ⟨w.heap.size + 1 + 1 + 1, 2, none⟩ = some (.int .u64 c2) := hbx.cell 2; have x3 : W.cell? ⟨w.heap.size + 1 + 1 + 1, 3, none⟩ = some (.int .u64 c3) := hbx.cell 3; have x4 : W.cell? ⟨w.heap.size + 1 + 1 + 1, 4, none⟩ = some (.int .u64 c4) := hbx.cell 4; have x5 : W.cell? ⟨w.heap.size + 1 + 1 + 1, 5, none⟩ = some (.string cts) := hbx.cell 5; have x6 : W.cell? ⟨w.heap.size + 1 + 1 + 1, 6, none⟩ = some (.slice cA cn cpp) := hbx.cell 6
      unfold Oper.wp
      go_simp
      exact hK _ _ ⟨_, rfl, HC.out.grow hC.bel⟩ hC (fun j u _ h => Mn.keep (Below.refl _ _) h)
    · obtain ⟨vg, hgd, mg⟩ := (hD ⟨1, .guard⟩ (by simp) rfl).2.at_ (d := 12) rfl
      have hgm : vg = .bool true := mg
      subst hgm
      refine ⟨wanted_some rfl rfl hgd, fun K hK => ?_⟩
      obtain ⟨v22, h22, m22⟩ := (hD ⟨11, .data⟩ (by simp) rfl).2.at_ (d := 22) rfl
      obtain ⟨v23, h23, m23⟩ := (hD ⟨12, .data⟩ (by simp) rfl).2.at_ (d := 23) rfl
      obtain ⟨cs0, rfl, hx0⟩ := m22
      obtain ⟨p0k, p0a, p0b, p0c, p0d, p0t, p0A, p0n, p0p, hc0⟩ := Ex.parts _ hx0
      subst hc0
      obtain ⟨cs1, rfl, hx1⟩ := m23
      obtain ⟨p1k, p1a, p1b, p1c, p1d, p1t, p1A, p1n, p1p, hc1⟩ := Ex.parts _ hx1
      subst hc1
      unfold Oper.wp
      go_simp
      have hbb : Below W.heap.size W (W.alloc (.cells #[.int .i64 p0k, .int .u64 p0a, .int .u64 p0b, .int .u64 p0c, .int .u64 p0d, .string p0t, .slice p0A p0n p0p, .int .i64 p1k, .int .u64 p1a, .int .u64 p1b, .int .u64 p1c, .int .u64 p1d, .string p1t, .slice p1A p1n p1p] 34)) := (Below.refl _ _).alloc (Nat.le_refl _) _
      exact hK _ _ ⟨W.heap.size, rfl, fun k => ex_two (hx0.grow hbb) (hx1.grow hbb) (blk_at rfl) rfl k⟩ (hC.below hbb) (fun j u _ h => Mn.keep hbb h)
    · obtain ⟨vg, hgd, mg⟩ := (hD ⟨1, .guard⟩ (by simp) rfl).2.at_ (d := 12) rfl
      have hgm : vg = .bool true := mg
      subst hgm
      refine ⟨wanted_some rfl rfl hgd, fun K hK => ?_⟩
      obtain ⟨v24, h24, m24⟩ := (hD ⟨13, .data⟩ (by simp) rfl).2.at_ (d := 24) rfl
      obtain ⟨bb, rfl, hkk⟩ := m24
      unfold Oper.wp
      go_simp
      refine (of_b _ _ _ _ W).mono ?_
      rintro e w' ⟨rfl, hb⟩
      exact hK _ _ ⟨_, rfl, (hkk 5).grow hb⟩ (hC.below hb) (fun j u _ h => Mn.keep hb h)
    · obtain ⟨vg, hgd, mg⟩ := (hD ⟨1, .guard⟩ (by simp) rfl).2.at_ (d := 12) rfl
      have hgm : vg = .bool true := mg
      subst hgm
      refine ⟨wanted_some rfl rfl hgd, fun K hK => ?_⟩
      obtain ⟨v21, h21, m21⟩ := (hD ⟨10, .data⟩ (by simp) rfl).2.at_ (d := 21) rfl
      obtain ⟨v25, h25, m25⟩ := (hD ⟨14, .data⟩ (by simp) rfl).2.at_ (d := 25) rfl
      obtain ⟨cs0, rfl, hx0⟩ := m21
      obtain ⟨p0k, p0a, p0b, p0c, p0d, p0t, p0A, p0n, p0p, hc0⟩ := Ex.parts _ hx0
      subst hc0
      obtain ⟨cs1, rfl, hx1⟩ := m25
      obtain ⟨p1k, p1a, p1b, p1c, p1d, p1t, p1A, p1n, p1p, hc1⟩ := Ex.parts _ hx1
      subst hc1
      unfold Oper.wp
      go_simp
      have hbb : Below W.heap.size W (W.alloc (.cells #[.int .i64 p0k, .int .u64 p0a, .int .u64 p0b, .int .u64 p0c, .int .u64 p0d, .string p0t, .slice p0A p0n p0p, .int .i64 p1k, .int .u64 p1a, .int .u64 p1b, .int .u64 p1c, .int .u64 p1d, .string p1t, .slice p1A p1n p1p] 34)) := (Below.refl _ _).alloc (Nat.le_refl _) _
      exact hK _ _ ⟨W.heap.size, rfl, fun k => ex_two (hx0.grow hbb) (hx1.grow hbb) (blk_at rfl) rfl k⟩ (hC.below hbb) (fun j u _ h => Mn.keep hbb h)
    · obtain ⟨vg, hgd, mg⟩ := (hD ⟨1, .guard⟩ (by simp) rfl).2.at_ (d := 12) rfl
      have hgm : vg = .bool true := mg
      subst hgm
      refine ⟨wanted_some rfl rfl hgd, fun K hK => ?_⟩
      obtain ⟨v26, h26, m26⟩ := (hD ⟨15, .data⟩ (by simp) rfl).2.at_ (d := 26) rfl
      obtain ⟨bb, rfl, hkk⟩ := m26
      unfold Oper.wp
      go_simp
      refine (of_b _ _ _ _ W).mono ?_
      rintro e w' ⟨rfl, hb⟩
      exact hK _ _ ⟨_, rfl, (hkk 5).grow hb⟩ (hC.below hb) (fun j u _ h => Mn.keep hb h)
    · obtain ⟨vg, hgd, mg⟩ := (hD ⟨1, .guard⟩ (by simp) rfl).2.at_ (d := 12) rfl
      have hgm : vg = .bool true := mg
      subst hgm
      refine ⟨wanted_some rfl rfl hgd, fun K hK => ?_⟩
      have h4 : act.tmps[4]? = some (.string s) := (hS.at_ 4 (by kernel_rfl)).trans rfl
      unfold Oper.wp
      go_simp
      exact hK _ _ rfl hC (fun j u _ h => Mn.keep (Below.refl _ _) h)
    · obtain ⟨vg, hgd, mg⟩ := (hD ⟨1, .guard⟩ (by simp) rfl).2.at_ (d := 12) rfl
      have hgm : vg = .bool true := mg
      subst hgm
      refine ⟨wanted_some rfl rfl hgd, fun K hK => ?_⟩
      obtain ⟨v13, h13, m13⟩ := (hD ⟨2, .data⟩ (by simp) rfl).2.at_ (d := 13) rfl
      obtain ⟨v20, h20, m20⟩ := (hD ⟨9, .data⟩ (by simp) rfl).2.at_ (d := 20) rfl
      obtain ⟨v27, h27, m27⟩ := (hD ⟨16, .data⟩ (by simp) rfl).2.at_ (d := 27) rfl
      obtain ⟨v28, h28, m28⟩ := (hD ⟨17, .data⟩ (by simp) rfl).2.at_ (d := 28) rfl
      have hm0 : v13 = .agg #[.slice A g.length cp] := m13
      have hm3 : v28 = .string s := m28
      subst hm0 hm3
      obtain ⟨csa, rfl, hxa⟩ := m20
      obtain ⟨csb, rfl, hxb⟩ := m27
      unfold Oper.wp
      go_simp
      refine (alike_any s (HG.out.grow hC.bel) hxa hxb hg HWF.out (wf_2 (by unfold I64; omega) (wf_2 (by unfold I64; omega) hwa hwb) hwc) (wf_2 (by unfold I64; omega) hwa (wf_2 (by unfold I64; omega) hwb hwc)) (fun _ => same_seq)).mono ?_
      rintro e w' ⟨rfl, hb⟩
      exact hK _ _ rfl (hC.below hb) (fun j u _ h => Mn.keep hb h)
    · refine ⟨rfl, fun K hK => ?_⟩
      obtain ⟨v12, h12, m12⟩ := (hD ⟨1, .data⟩ (by simp) rfl).2.at_ (d := 12) rfl
      obtain ⟨v29, h29, m29⟩ := (hD ⟨18, .data⟩ (by simp) rfl).2.at_ (d := 29) rfl
      have hm1 : v12 = .bool true := m12
      have hm2 : v29 = .bool true := m29
      subst hm1 hm2
      unfold Oper.wp
      go_simp
      exact hK _ _ rfl hC (fun j u _ h => Mn.keep (Below.refl _ _) h)
    · refine ⟨rfl, fun K hK => ?_⟩
      obtain ⟨v30, h30, m30⟩ := (hD ⟨19, .data⟩ (by simp) rfl).2.at_ (d := 30) rfl
      have hm : v30 = .bool true := m30
      subst hm
      unfold Oper.wp
      go_simp
      exact hK _ _ rfl hC (fun j u _ h => Mn.keep (Below.refl _ _) h)
    · obtain ⟨vg, hgd, mg⟩ := (hD ⟨20, .guard⟩ (by simp) rfl).2.at_ (d := 31) rfl
      have hgm : vg = .bool true := mg
      subst hgm
      refine ⟨wanted_some rfl rfl hgd, fun K hK => ?_⟩
      have h5 : act.tmps[5]? = some (.pointer (some ⟨w.heap.size, 0, none⟩)) := (hS.at_ 5 (by kernel_rfl)).trans rfl
      have g0 : W.cell? ⟨w.heap.size, 0, none⟩ = some (.slice A g.length cp) := hC.g.cell 0
      unfold Oper.wp
      go_simp
      exact hK _ _ rfl hC (fun j u _ h => Mn.keep (Below.refl _ _) h)
    · obtain ⟨vg, hgd, mg⟩ := (hD ⟨20, .guard⟩ (by simp) rfl).2.at_ (d := 31) rfl
      have hgm : vg = .bool true := mg
      subst hgm
      refine ⟨wanted_some rfl rfl hgd, fun K hK => ?_⟩
      have h6 : act.tmps[6]? = some (.pointer (some ⟨w.heap.size + 1, 0, none⟩)) := (hS.at_ 6 (by kernel_rfl)).trans rfl
      have hbx := hC.ex 0 _ rfl
      have x0 : W.cell? ⟨w.heap.size + 1, 0, none⟩ = some (.int .i64 ak) := hbx.cell 0; have x1 : W.cell? ⟨w.heap.size + 1, 1, none⟩ = some (.int .u64 a1) := hbx.cell 1; have x2 : W.cell? ⟨w.heap.size + 1, 2, none⟩ = some (.int .u64 a2) := hbx.cell 2; have x3 : W.cell? ⟨w.heap.size + 1, 3, none⟩ = some (.int .u64 a3) := hbx.cell 3; have x4 : W.cell? ⟨w.heap.size + 1, 4, none⟩ = some (.int .u64 a4) := hbx.cell 4; have x5 : W.cell? ⟨w.heap.size + 1, 5, none⟩ = some (.string ats) := hbx.cell 5; have x6 : W.cell? ⟨w.heap.size + 1, 6, none⟩ = some (.slice aA an ap) := hbx.cell 6
      unfold Oper.wp
      go_simp
      exact hK _ _ ⟨_, rfl, HA.out.grow hC.bel⟩ hC (fun j u _ h => Mn.keep (Below.refl _ _) h)
    · obtain ⟨vg, hgd, mg⟩ := (hD ⟨20, .guard⟩ (by simp) rfl).2.at_ (d := 31) rfl
      have hgm : vg = .bool true := mg
      subst hgm
      refine ⟨wanted_some rfl rfl hgd, fun K hK => ?_⟩
      have h7 : act.tmps[7]? = some (.pointer (some ⟨w.heap.size + 1 + 1, 0, none⟩)) := (hS.at_ 7 (by kernel_rfl)).trans rfl
      have hbx := hC.ex 1 _ rfl
      have x0 : W.cell? ⟨w.heap.size + 1 + 1, 0, none⟩ = some (.int .i64 bk) := hbx.cell 0; have x1 : W.cell? ⟨w.heap.size + 1 + 1, 1, none⟩ = some (.int .u64 b1) := hbx.cell 1; have x2 : W.cell? ⟨w.heap.size + 1 + 1, 2, none⟩ = some (.int .u64 b2) := hbx.cell 2; have x3 : W.cell? ⟨w.heap.size + 1 + 1, 3, none⟩ = some (.int .u64 b3) := hbx.cell 3; have x4 : W.cell? ⟨w.heap.size + 1 + 1, 4, none⟩ = some (.int .u64 b4) := hbx.cell 4; have x5 : W.cell? ⟨w.heap.size + 1 + 1, 5, none⟩ = some (.string bts) := hbx.cell 5; have x6 : W.cell? ⟨w.heap.size + 1 + 1, 6, none⟩ = some (.slice bA bn bp) := hbx.cell 6
      unfold Oper.wp
      go_simp
      exact hK _ _ ⟨_, rfl, HB.out.grow hC.bel⟩ hC (fun j u _ h => Mn.keep (Below.refl _ _) h)
    · obtain ⟨vg, hgd, mg⟩ := (hD ⟨20, .guard⟩ (by simp) rfl).2.at_ (d := 31) rfl
      have hgm : vg = .bool true := mg
      subst hgm
      refine ⟨wanted_some rfl rfl hgd, fun K hK => ?_⟩
      obtain ⟨v33, h33, m33⟩ := (hD ⟨22, .data⟩ (by simp) rfl).2.at_ (d := 33) rfl
      obtain ⟨v34, h34, m34⟩ := (hD ⟨23, .data⟩ (by simp) rfl).2.at_ (d := 34) rfl
      obtain ⟨cs0, rfl, hx0⟩ := m33
      obtain ⟨p0k, p0a, p0b, p0c, p0d, p0t, p0A, p0n, p0p, hc0⟩ := Ex.parts _ hx0
      subst hc0
      obtain ⟨cs1, rfl, hx1⟩ := m34
      obtain ⟨p1k, p1a, p1b, p1c, p1d, p1t, p1A, p1n, p1p, hc1⟩ := Ex.parts _ hx1
      subst hc1
      unfold Oper.wp
      go_simp
      have hbb : Below W.heap.size W (W.alloc (.cells #[.int .i64 p0k, .int .u64 p0a, .int .u64 p0b, .int .u64 p0c, .int .u64 p0d, .string p0t, .slice p0A p0n p0p, .int .i64 p1k, .int .u64 p1a, .int .u64 p1b, .int .u64 p1c, .int .u64 p1d, .string p1t, .slice p1A p1n p1p] 34)) := (Below.refl _ _).alloc (Nat.le_refl _) _
      exact hK _ _ ⟨W.heap.size, rfl, fun k => ex_two (hx0.grow hbb) (hx1.grow hbb) (blk_at rfl) rfl k⟩ (hC.below hbb) (fun j u _ h => Mn.keep hbb h)
    · obtain ⟨vg, hgd, mg⟩ := (hD ⟨20, .guard⟩ (by simp) rfl).2.at_ (d := 31) rfl
      have hgm : vg = .bool true := mg
      subst hgm
      refine ⟨wanted_some rfl rfl hgd, fun K hK => ?_⟩
      obtain ⟨v35, h35, m35⟩ := (hD ⟨24, .data⟩ (by simp) rfl).2.at_ (d := 35) rfl
      obtain ⟨bb, rfl, hkk⟩ := m35
      unfold Oper.wp
      go_simp
      refine (of_b _ _ _ _ W).mono ?_
      rintro e w' ⟨rfl, hb⟩
      exact hK _ _ ⟨_, rfl, (hkk 6).grow hb⟩ (hC.below hb) (fun j u _ h => Mn.keep hb h)
    · obtain ⟨vg, hgd, mg⟩ := (hD ⟨20, .guard⟩ (by simp) rfl).2.at_ (d := 31) rfl
      have hgm : vg = .bool true := mg
      subst hgm
      refine ⟨wanted_some rfl rfl hgd, fun K hK => ?_⟩
      have h8 : act.tmps[8]? = some (.pointer (some ⟨w.heap.size + 1 + 1 + 1, 0, none⟩)) := (hS.at_ 8 (by kernel_rfl)).trans rfl
      have hbx := hC.ex 2 _ rfl
      have x0 : W.cell? ⟨w.heap.size + 1 + 1 + 1, 0, none⟩ = some (.int .i64 ck) := hbx.cell 0; have x1 : W.cell? ⟨w.heap.size + 1 + 1 + 1, 1, none⟩ = some (.int .u64 c1) := hbx.cell 1; have x2 : W.cell? ⟨w.heap.size + 1 + 1 + 1, 2, none⟩ = some (.int .u64 c2) := hbx.cell 2; have x3 : W.cell? ⟨w.heap.size + 1 + 1 + 1, 3, none⟩ = some (.int .u64 c3) := hbx.cell 3; have x4 : W.cell? ⟨w.heap.size + 1 + 1 + 1, 4, none⟩ = some (.int .u64 c4) := hbx.cell 4; have x5 : W.cell? ⟨w.heap.size + 1 + 1 + 1, 5, none⟩ = some (.string cts) := hbx.cell 5; have x6 : W.cell? ⟨w.heap.size + 1 + 1 + 1, 6, none⟩ = some (.slice cA cn cpp) := hbx.cell 6
      unfold Oper.wp
      go_simp
      exact hK _ _ ⟨_, rfl, HC.out.grow hC.bel⟩ hC (fun j u _ h => Mn.keep (Below.refl _ _) h)
    · obtain ⟨vg, hgd, mg⟩ := (hD ⟨20, .guard⟩ (by simp) rfl).2.at_ (d := 31) rfl
      have hgm : vg = .bool true := mg
      subst hgm
      refine ⟨wanted_some rfl rfl hgd, fun K hK => ?_⟩
      obtain ⟨v36, h36, m36⟩ := (hD ⟨25, .data⟩ (by simp) rfl).2.at_ (d := 36) rfl
      obtain ⟨v37, h37, m37⟩ := (hD ⟨26, .data⟩ (by simp) rfl).2.at_ (d := 37) rfl
      obtain ⟨cs0, rfl, hx0⟩ := m36
      obtain ⟨p0k, p0a, p0b, p0c, p0d, p0t, p0A, p0n, p0p, hc0⟩ := Ex.parts _ hx0
      subst hc0
      obtain ⟨cs1, rfl, hx1⟩ := m37
      obtain ⟨p1k, p1a, p1b, p1c, p1d, p1t, p1A, p1n, p1p, hc1⟩ := Ex.parts _ hx1
      subst hc1
      unfold Oper.wp
      go_simp
      have hbb : Below W.heap.size W (W.alloc (.cells #[.int .i64 p0k, .int .u64 p0a, .int .u64 p0b, .int .u64 p0c, .int .u64 p0d, .string p0t, .slice p0A p0n p0p, .int .i64 p1k, .int .u64 p1a, .int .u64 p1b, .int .u64 p1c, .int .u64 p1d, .string p1t, .slice p1A p1n p1p] 34)) := (Below.refl _ _).alloc (Nat.le_refl _) _
      exact hK _ _ ⟨W.heap.size, rfl, fun k => ex_two (hx0.grow hbb) (hx1.grow hbb) (blk_at rfl) rfl k⟩ (hC.below hbb) (fun j u _ h => Mn.keep hbb h)
    · obtain ⟨vg, hgd, mg⟩ := (hD ⟨20, .guard⟩ (by simp) rfl).2.at_ (d := 31) rfl
      have hgm : vg = .bool true := mg
      subst hgm
      refine ⟨wanted_some rfl rfl hgd, fun K hK => ?_⟩
      obtain ⟨v38, h38, m38⟩ := (hD ⟨27, .data⟩ (by simp) rfl).2.at_ (d := 38) rfl
      obtain ⟨bb, rfl, hkk⟩ := m38
      unfold Oper.wp
      go_simp
      refine (of_b _ _ _ _ W).mono ?_
      rintro e w' ⟨rfl, hb⟩
      exact hK _ _ ⟨_, rfl, (hkk 6).grow hb⟩ (hC.below hb) (fun j u _ h => Mn.keep hb h)
    · obtain ⟨vg, hgd, mg⟩ := (hD ⟨20, .guard⟩ (by simp) rfl).2.at_ (d := 31) rfl
      have hgm : vg = .bool true := mg
      subst hgm
      refine ⟨wanted_some rfl rfl hgd, fun K hK => ?_⟩
      have h6 : act.tmps[6]? = some (.pointer (some ⟨w.heap.size + 1, 0, none⟩)) := (hS.at_ 6 (by kernel_rfl)).trans rfl
      have hbx := hC.ex 0 _ rfl
      have x0 : W.cell? ⟨w.heap.size + 1, 0, none⟩ = some (.int .i64 ak) := hbx.cell 0; have x1 : W.cell? ⟨w.heap.size + 1, 1, none⟩ = some (.int .u64 a1) := hbx.cell 1; have x2 : W.cell? ⟨w.heap.size + 1, 2, none⟩ = some (.int .u64 a2) := hbx.cell 2; have x3 : W.cell? ⟨w.heap.size + 1, 3, none⟩ = some (.int .u64 a3) := hbx.cell 3; have x4 : W.cell? ⟨w.heap.size + 1, 4, none⟩ = some (.int .u64 a4) := hbx.cell 4; have x5 : W.cell? ⟨w.heap.size + 1, 5, none⟩ = some (.string ats) := hbx.cell 5; have x6 : W.cell? ⟨w.heap.size + 1, 6, none⟩ = some (.slice aA an ap) := hbx.cell 6
      unfold Oper.wp
      go_simp
      exact hK _ _ ⟨_, rfl, HA.out.grow hC.bel⟩ hC (fun j u _ h => Mn.keep (Below.refl _ _) h)
    · obtain ⟨vg, hgd, mg⟩ := (hD ⟨20, .guard⟩ (by simp) rfl).2.at_ (d := 31) rfl
      have hgm : vg = .bool true := mg
      subst hgm
      refine ⟨wanted_some rfl rfl hgd, fun K hK => ?_⟩
      have h7 : act.tmps[7]? = some (.pointer (some ⟨w.heap.size + 1 + 1, 0, none⟩)) := (hS.at_ 7 (by kernel_rfl)).trans rfl
      have hbx := hC.ex 1 _ rfl
      have x0 : W.cell? ⟨w.heap.size + 1 + 1, 0, none⟩ = some (.int .i64 bk) := hbx.cell 0; have x1 : W.cell? ⟨w.heap.size + 1 + 1, 1, none⟩ = some (.int .u64 b1) := hbx.cell 1; have x2 : W.cell? ⟨w.heap.size + 1 + 1, 2, none⟩ = some (.int .u64 b2) := hbx.cell 2; have x3 : W.cell? ⟨w.heap.size + 1 + 1, 3, none⟩ = some (.int .u64 b3) := hbx.cell 3; have x4 : W.cell? ⟨w.heap.size + 1 + 1, 4, none⟩ = some (.int .u64 b4) := hbx.cell 4; have x5 : W.cell? ⟨w.heap.size + 1 + 1, 5, none⟩ = some (.string bts) := hbx.cell 5; have x6 : W.cell? ⟨w.heap.size + 1 + 1, 6, none⟩ = some (.slice bA bn bp) := hbx.cell 6
      unfold Oper.wp
      go_simp
      exact hK _ _ ⟨_, rfl, HB.out.grow hC.bel⟩ hC (fun j u _ h => Mn.keep (Below.refl _ _) h)
    · obtain ⟨vg, hgd, mg⟩ := (hD ⟨20, .guard⟩ (by simp) rfl).2.at_ (d := 31) rfl
      have hgm : vg = .bool true := mg
      subst hgm
      refine ⟨wanted_some rfl rfl hgd, fun K hK => ?_⟩
      have h8 : act.tmps[8]? = some (.pointer (some ⟨w.heap.size + 1 + 1 + 1, 0, none⟩)) := (hS.at_ 8 (by kernel_rfl)).trans rfl
      have hbx := hC.ex 2 _ rfl
      have x0 : W.cell? ⟨w.heap.size + 1 + 1 + 1, 0, none⟩ = some (.int .i64 ck) := hbx.cell 0; have x1 : W.cell? ⟨w.heap.size + 1 + 1 + 1, 1, none⟩ = some (.int .u64 c1) := hbx.cell 1; have x2 : W.cell? ⟨w.heap.size + 1 + 1 + 1, 2, none⟩ = some (.int .u64 c2) := hbx.cell 2; have x3 : W.cell? ⟨w.heap.size + 1 + 1 + 1, 3, none⟩ = some (.int .u64 c3) := hbx.cell 3; have x4 : W.cell? ⟨w.heap.size + 1 + 1 + 1, 4, none⟩ = some (.int .u64 c4) := hbx.cell 4; have x5 : W.cell? ⟨w.heap.size + 1 + 1 + 1, 5, none⟩ = some (.string cts) := hbx.cell 5; have x6 : W.cell? ⟨w.heap.size + 1 + 1 + 1, 6, none⟩ = some (.slice cA cn cpp) := hbx.cell 6
      unfold Oper.wp
      go_simp
      exact hK _ _ ⟨_, rfl, HC.out.grow hC.bel⟩ hC (fun j u _ h => Mn.keep (Below.refl _ _) h)
    · obtain ⟨vg, hgd, mg⟩ := (hD ⟨20, .guard⟩ (by simp) rfl).2.at_ (d := 31) rfl
      have hgm : vg = .bool true := mg
      subst hgm
      refine ⟨wanted_some rfl rfl hgd, fun K hK => ?_⟩
      obtain ⟨v41, h41, m41⟩ := (hD ⟨30, .data⟩ (by simp) rfl).2.at_ (d := 41) rfl
      obtain ⟨v42, h42, m42⟩ := (hD ⟨31, .data⟩ (by simp) rfl).2.at_ (d := 42) rfl
      obtain ⟨cs0, rfl, hx0⟩ := m41
      obtain ⟨p0k, p0a, p0b, p0c, p0d, p0t, p0A, p0n, p0p, hc0⟩ := Ex.parts _ hx0
      subst hc0
      obtain ⟨cs1, rfl, hx1⟩ := m42
      obtain ⟨p1k, p1a, p1b, p1c, p1d, p1t, p1A, p1n, p1p, hc1⟩ := Ex.parts _ hx1
      subst hc1
      unfold Oper.wp
      go_simp
      have hbb : Below W.heap.size W (W.alloc (.cells #[.int .i64 p0k, .int .u64 p0a, .int .u64 p0b, .int .u64 p0c, .int .u64 p0d, .string p0t, .slice p0A p0n p0p, .int .i64 p1k, .int .u64 p1a, .int .u64 p1b, .int .u64 p1c, .int .u64 p1d, .string p1t, .slice p1A p1n p1p] 34)) := (Below.refl _ _).alloc (Nat.le_refl _) _
      exact hK _ _ ⟨W.heap.size, rfl, fun k => ex_two (hx0.grow hbb) (hx1.grow hbb) (blk_at rfl) rfl k⟩ (hC.below hbb) (fun j u _ h => Mn.keep hbb h)
    · obtain ⟨vg, hgd, mg⟩ := (hD ⟨20, .guard⟩ (by simp) rfl).2.at_ (d := 31) rfl
      have hgm : vg = .bool true := mg
      subst hgm
      refine ⟨wanted_some rfl rfl hgd, fun K hK => ?_⟩
      obtain ⟨v43, h43, m43⟩ := (hD ⟨32, .data⟩ (by simp) rfl).2.at_ (d := 43) rfl
      obtain ⟨bb, rfl, hkk⟩ := m43
      unfold Oper.wp
      go_simp
      refine (of_b _ _ _ _ W).mono ?_
      rintro e w' ⟨rfl, hb⟩
      exact hK _ _ ⟨_, rfl, (hkk 6).grow hb⟩ (hC.below hb) (fun j u _ h => Mn.keep hb h)
    · obtain ⟨vg, hgd, mg⟩ := (hD ⟨20, .guard⟩ (by simp) rfl).2.at_ (d := 31) rfl
      have hgm : vg = .bool true := mg
      subst hgm
      refine ⟨wanted_some rfl rfl hgd, fun K hK => ?_⟩
      obtain ⟨v40, h40, m40⟩ := (hD ⟨29, .data⟩ (by simp) rfl).2.at_ (d := 40) rfl
      obtain ⟨v44, h44, m44⟩ := (hD ⟨33, .data⟩ (by simp) rfl).2.at_ (d := 44) rfl
      obtain ⟨cs0, rfl, hx0⟩ := m40
      obtain ⟨p0k, p0a, p0b, p0c, p0d, p0t, p0A, p0n, p0p, hc0⟩ := Ex.parts _ hx0
      subst hc0
      obtain ⟨cs1, rfl, hx1⟩ := m44
      obtain ⟨p1k, p1a, p1b, p1c, p1d, p1t, p1A, p1n, p1p, hc1⟩ := Ex.parts _ hx1
      subst hc1
      unfold Oper.wp
      go_simp
      have hbb : Below W.heap.size W (W.alloc (.cells #[.int .i64 p0k, .int .u64 p0a, .int .u64 p0b, .int .u64 p0c, .int .u64 p0d, .string p0t, .slice p0A p0n p0p, .int .i64 p1k, .int .u64 p1a, .int .u64 p1b, .int .u64 p1c, .int .u64 p1d, .string p1t, .slice p1A p1n p1p] 34)) := (Below.refl _ _).alloc (Nat.le_refl _) _
      exact hK _ _ ⟨W.heap.size, rfl, fun k => ex_two (hx0.grow hbb) (hx1.grow hbb) (blk_at rfl) rfl k⟩ (hC.below hbb) (fun j u _ h => Mn.keep hbb h)
    · obtain ⟨vg, hgd, mg⟩ := (hD ⟨20, .guard⟩ (by simp) rfl).2.at_ (d := 31) rfl
      have hgm : vg = .bool true := mg
      subst hgm
      refine ⟨wanted_some rfl rfl hgd, fun K hK => ?_⟩
      obtain ⟨v45, h45, m45⟩ := (hD ⟨34, .data⟩ (by simp) rfl).2.at_ (d := 45) rfl
      obtain ⟨bb, rfl, hkk⟩ := m45
      unfold Oper.wp
      go_simp
      refine (of_b _ _ _ _ W).mono ?_
      rintro e w' ⟨rfl, hb⟩
      exact hK _ _ ⟨_, rfl, (hkk 6).grow hb⟩ (hC.below hb) (fun j u _ h => Mn.keep hb h)
    · obtain ⟨vg, hgd, mg⟩ := (hD ⟨20, .guard⟩ (by simp) rfl).2.at_ (d := 31) rfl
      have hgm : vg = .bool true := mg
      subst hgm
      refine ⟨wanted_some rfl rfl hgd, fun K hK => ?_⟩
      have h4 : act.tmps[4]? = some (.string s) := (hS.at_ 4 (by kernel_rfl)).trans rfl
      unfold Oper.wp
      go_simp
      exact hK _ _ rfl hC (fun j u _ h => Mn.keep (Below.refl _ _) h)
    · obtain ⟨vg, hgd, mg⟩ := (hD ⟨20, .guard⟩ (by simp) rfl).2.at_ (d := 31) rfl
      have hgm : vg = .bool true := mg
      subst hgm
      refine ⟨wanted_some rfl rfl hgd, fun K hK => ?_⟩
      obtain ⟨v32, h32, m32⟩ := (hD ⟨21, .data⟩ (by simp) rfl).2.at_ (d := 32) rfl
      obtain ⟨v39, h39, m39⟩ := (hD ⟨28, .data⟩ (by simp) rfl).2.at_ (d := 39) rfl
      obtain ⟨v46, h46, m46⟩ := (hD ⟨35, .data⟩ (by simp) rfl).2.at_ (d := 46) rfl
      obtain ⟨v47, h47, m47⟩ := (hD ⟨36, .data⟩ (by simp) rfl).2.at_ (d := 47) rfl
      have hm0 : v32 = .agg #[.slice A g.length cp] := m32
      have hm3 : v47 = .string s := m47
      subst hm0 hm3
      obtain ⟨csa, rfl, hxa⟩ := m39
      obtain ⟨csb, rfl, hxb⟩ := m46
      unfold Oper.wp
      go_simp
      refine (alike_any s (HG.out.grow hC.bel) hxa hxb hg HWF.out (wf_2 (by unfold I64; omega) (wf_2 (by unfold I64; omega) hwa hwb) hwc) (wf_2 (by unfold I64; omega) hwa (wf_2 (by unfold I64; omega) hwb hwc)) (fun _ => same_alt)).mono ?_
      rintro e w' ⟨rfl, hb⟩
      exact hK _ _ rfl (hC.below hb) (fun j u _ h => Mn.keep hb h)
    · refine ⟨rfl, fun K hK => ?_⟩
      obtain ⟨v31, h31, m31⟩ := (hD ⟨20, .data⟩ (by simp) rfl).2.at_ (d := 31) rfl
      obtain ⟨v48, h48, m48⟩ := (hD ⟨37, .data⟩ (by simp) rfl).2.at_ (d := 48) rfl
      have hm1 : v31 = .bool true := m31
      have hm2 : v48 = .bool true := m48
      subst hm1 hm2
      unfold Oper.wp
      go_simp
      exact hK _ _ rfl hC (fun j u _ h => Mn.keep (Below.refl _ _) h)
    · refine ⟨rfl, fun K hK => ?_⟩
      obtain ⟨v49, h49, m49⟩ := (hD ⟨38, .data⟩ (by simp) rfl).2.at_ (d := 49) rfl
      have hm : v49 = .bool true := m49
      subst hm
      unfold Oper.wp
      go_simp
      exact hK _ _ rfl hC (fun j u _ h => Mn.keep (Below.refl _ _) h)
    · obtain ⟨vg, hgd, mg⟩ := (hD ⟨39, .guard⟩ (by simp) rfl).2.at_ (d := 50) rfl
      have hgm : vg = .bool true := mg
      subst hgm
      refine ⟨wanted_some rfl rfl hgd, fun K hK => ?_⟩
      have h5 : act.tmps[5]? = some (.pointer (some ⟨w.heap.size, 0, none⟩)) := (hS.at_ 5 (by kernel_rfl)).trans rfl
      have g0 : W.cell? ⟨w.heap.size, 0, none⟩ = some (.slice A g.length cp) := hC.g.cell 0
      unfold Oper.wp
      go_simp
      exact hK _ _ rfl hC (fun j u _ h => Mn.keep (Below.refl _ _) h)
    · obtain ⟨vg, hgd, mg⟩ := (hD ⟨39, .guard⟩ (by simp) rfl).2.at_ (d := 50) rfl
      have hgm : vg = .bool true := mg
      subst hgm
      refine ⟨wanted_some rfl rfl hgd, fun K hK => ?_⟩
      have h6 : act.tmps[6]? = some (.pointer (some ⟨w.heap.size + 1, 0, none⟩)) := (hS.at_ 6 (by kernel_rfl)).trans rfl
      have hbx := hC.ex 0 _ rfl
      have x0 : W.cell? ⟨w.heap.size + 1, 0, none⟩ = some (.int .i64 ak) := hbx.cell 0; have x1 : W.cell? ⟨w.heap.size + 1, 1, none⟩ = some (.int .u64 a1) := hbx.cell 1; have x2 : W.cell? ⟨w.heap.size + 1, 2, none⟩ = some (.int .u64 a2) := hbx.cell 2; have x3 : W.cell? ⟨w.heap.size + 1, 3, none⟩ = some (.int .u64 a3) := hbx.cell 3; have x4 : W.cell? ⟨w.heap.size + 1, 4, none⟩ = some (.int .u64 a4) := hbx.cell 4; have x5 : W.cell? ⟨w.heap.size + 1, 5, none⟩ = some (.string ats) := hbx.cell 5; have x6 : W.cell? ⟨w.heap.size + 1, 6, none⟩ = some (.slice aA an ap) := hbx.cell 6
      unfold Oper.wp
      go_simp
      exact hK _ _ ⟨_, rfl, HA.out.grow hC.bel⟩ hC (fun j u _ h => Mn.keep (Below.refl _ _) h)
    · obtain ⟨vg, hgd, mg⟩ := (hD ⟨39, .guard⟩ (by simp) rfl).2.at_ (d := 50) rfl
      have hgm : vg = .bool true := mg
      subst hgm
      refine ⟨wanted_some rfl rfl hgd, fun K hK => ?_⟩
      obtain ⟨v52, h52, m52⟩ := (hD ⟨41, .data⟩ (by simp) rfl).2.at_ (d := 52) rfl
      obtain ⟨cs0, rfl, hx0⟩ := m52
      obtain ⟨p0k, p0a, p0b, p0c, p0d, p0t, p0A, p0n, p0p, hc0⟩ := Ex.parts _ hx0
      subst hc0
      unfold Oper.wp
      go_simp
      have hbb : Below W.heap.size W (W.alloc (.cells #[.int .i64 p0k, .int .u64 p0a, .int .u64 p0b, .int .u64 p0c, .int .u64 p0d, .string p0t, .slice p0A p0n p0p] 34)) := (Below.refl _ _).alloc (Nat.le_refl _) _
      exact hK _ _ ⟨W.heap.size, rfl, fun k => ex_one (hx0.grow hbb) (blk_at rfl) rfl k⟩ (hC.below hbb) (fun j u _ h => Mn.keep hbb h)
    · obtain ⟨vg, hgd, mg⟩ := (hD ⟨39, .guard⟩ (by simp) rfl).2.at_ (d := 50) rfl
      have hgm : vg = .bool true := mg
      subst hgm
      refine ⟨wanted_some rfl rfl hgd, fun K hK => ?_⟩
      obtain ⟨v53, h53, m53⟩ := (hD ⟨42, .data⟩ (by simp) rfl).2.at_ (d := 53) rfl
      obtain ⟨bb, rfl, hkk⟩ := m53
      unfold Oper.wp
      go_simp
      refine (of_b _ _ _ _ W).mono ?_
      rintro e w' ⟨rfl, hb⟩
      exact hK _ _ ⟨_, rfl, (hkk 9).grow hb⟩ (hC.below hb) (fun j u _ h => Mn.keep hb h)
    · obtain ⟨vg, hgd, mg⟩ := (hD ⟨39, .guard⟩ (by simp) rfl).2.at_ (d := 50) rfl
      have hgm : vg = .bool true := mg
      subst hgm
      refine ⟨wanted_some rfl rfl hgd, fun K hK => ?_⟩
      unfold Oper.wp
      go_simp
      exact hK _ _ ⟨_, rfl, emptyX_is _⟩ hC (fun j u _ h => Mn.keep (Below.refl _ _) h)
    · obtain ⟨vg, hgd, mg⟩ := (hD ⟨39, .guard⟩ (by simp) rfl).2.at_ (d := 50) rfl
      have hgm : vg = .bool true := mg
      subst hgm
      refine ⟨wanted_some rfl rfl hgd, fun K hK => ?_⟩
      obtain ⟨v54, h54, m54⟩ := (hD ⟨43, .data⟩ (by simp) rfl).2.at_ (d := 54) rfl
      obtain ⟨v55, h55, m55⟩ := (hD ⟨44, .data⟩ (by simp) rfl).2.at_ (d := 55) rfl
      obtain ⟨cs0, rfl, hx0⟩ := m54
      obtain ⟨p0k, p0a, p0b, p0c, p0d, p0t, p0A, p0n, p0p, hc0⟩ := Ex.parts _ hx0
      subst hc0
      obtain ⟨cs1, rfl, hx1⟩ := m55
      obtain ⟨p1k, p1a, p1b, p1c, p1d, p1t, p1A, p1n, p1p, hc1⟩ := Ex.parts _ hx1
      subst hc1
      unfold Oper.wp
      go_simp
      have hbb : Below W.heap.size W (W.alloc (.cells #[.int .i64 p0k, .int .u64 p0a, .int .u64 p0b, .int .u64 p0c, .int .u64 p0d, .string p0t, .slice p0A p0n p0p, .int .i64 p1k, .int .u64 p1a, .int .u64 p1b, .int .u64 p1c, .int .u64 p1d, .string p1t, .slice p1A p1n p1p] 34)) := (Below.refl _ _).alloc (Nat.le_refl _) _
      exact hK _ _ ⟨W.heap.size, rfl, fun k => ex_two (hx0.grow hbb) (hx1.grow hbb) (blk_at rfl) rfl k⟩ (hC.below hbb) (fun j u _ h => Mn.keep hbb h)
    · obtain ⟨vg, hgd, mg⟩ := (hD ⟨39, .guard⟩ (by simp) rfl).2.at_ (d := 50) rfl
      have hgm : vg = .bool true := mg
      subst hgm
      refine ⟨wanted_some rfl rfl hgd, fun K hK => ?_⟩
      obtain ⟨v56, h56, m56⟩ := (hD ⟨45, .data⟩ (by simp) rfl).2.at_ (d := 56) rfl
      obtain ⟨bb, rfl, hkk⟩ := m56
      unfold Oper.wp
      go_simp
      refine (of_b _ _ _ _ W).mono ?_
      rintro e w' ⟨rfl, hb⟩
      exact hK _ _ ⟨_, rfl, (hkk 5).grow hb⟩ (hC.below hb) (fun j u _ h => Mn.keep hb h)
    · obtain ⟨vg, hgd, mg⟩ := (hD ⟨39, .guard⟩ (by simp) rfl).2.at_ (d := 50) rfl
      have hgm : vg = .bool true := mg
      subst hgm
      refine ⟨wanted_some rfl rfl hgd, fun K hK => ?_⟩
      have h6 : act.tmps[6]? = some (.pointer (some ⟨w.heap.size + 1, 0, none⟩)) := (hS.at_ 6 (by kernel_rfl)).trans rfl
      have hbx := hC.ex 0 _ rfl
      have x0 : W.cell? ⟨w.heap.size + 1, 0, none⟩ = some (.int .i64 ak) := hbx.cell 0; have x1 : W.cell? ⟨w.heap.size + 1, 1, none⟩ = some (.int .u64 a1) := hbx.cell 1; have x2 : W.cell? ⟨w.heap.size + 1, 2, none⟩ = some (.int .u64 a2) := hbx.cell 2; have x3 : W.cell? ⟨w.heap.size + 1, 3, none⟩ = some (.int .u64 a3) := hbx.cell 3; have x4 : W.cell? ⟨w.heap.size + 1, 4, none⟩ = some (.int .u64 a4) := hbx.cell 4; have x5 : W.cell? ⟨w.heap.size + 1, 5, none⟩ = some (.string ats) := hbx.cell 5; have x6 : W.cell? ⟨w.heap.size + 1, 6, none⟩ = some (.slice aA an ap) := hbx.cell 6
      unfold Oper.wp
      go_simp
      exact hK _ _ ⟨_, rfl, HA.out.grow hC.bel⟩ hC (fun j u _ h => Mn.keep (Below.refl _ _) h)
    · obtain ⟨vg, hgd, mg⟩ := (hD ⟨39, .guard⟩ (by simp) rfl).2.at_ (d := 50) rfl
      have hgm : vg = .bool true := mg
      subst hgm
      refine ⟨wanted_some rfl rfl hgd, fun K hK => ?_⟩
      obtain ⟨v58, h58, m58⟩ := (hD ⟨47, .data⟩ (by simp) rfl).2.at_ (d := 58) rfl
      obtain ⟨cs0, rfl, hx0⟩ := m58
      obtain ⟨p0k, p0a, p0b, p0c, p0d, p0t, p0A, p0n, p0p, hc0⟩ := Ex.parts _ hx0
      subst hc0
      unfold Oper.wp
      go_simp
      have hbb : Below W.heap.size W (W.alloc (.cells #[.int .i64 p0k, .int .u64 p0a, .int .u64 p0b, .int .u64 p0c, .int .u64 p0d, .string p0t, .slice p0A p0n p0p] 34)) := (Below.refl _ _).alloc (Nat.le_refl _) _
      exact hK _ _ ⟨W.heap.size, rfl, fun k => ex_one (hx0.grow hbb) (blk_at rfl) rfl k⟩ (hC.below hbb) (fun j u _ h => Mn.keep hbb h)
    · obtain ⟨vg, hgd, mg⟩ := (hD ⟨39, .guard⟩ (by simp) rfl).2.at_ (d := 50) rfl
      have hgm : vg = .bool true := mg
      subst hgm
      refine ⟨wanted_some rfl rfl hgd, fun K hK => ?_⟩
      obtain ⟨v59, h59, m59⟩ := (hD ⟨48, .data⟩ (by simp) rfl).2.at_ (d := 59) rfl
      obtain ⟨bb, rfl, hkk⟩ := m59
      unfold Oper.wp
      go_simp
      refine (of_b _ _ _ _ W).mono ?_
      rintro e w' ⟨rfl, hb⟩
      exact hK _ _ ⟨_, rfl, (hkk 9).grow hb⟩ (hC.below hb) (fun j u _ h => Mn.keep hb h)
    · obtain ⟨vg, hgd, mg⟩ := (hD ⟨39, .guard⟩ (by simp) rfl).2.at_ (d := 50) rfl
      have hgm : vg = .bool true := mg
      subst hgm
      refine ⟨wanted_some rfl rfl hgd, fun K hK => ?_⟩
      have h4 : act.tmps[4]? = some (.string s) := (hS.at_ 4 (by kernel_rfl)).trans rfl
      unfold Oper.wp
      go_simp
      exact hK _ _ rfl hC (fun j u _ h => Mn.keep (Below.refl _ _) h)
    · obtain ⟨vg, hgd, mg⟩ := (hD ⟨39, .guard⟩ (by simp) rfl).2.at_ (d := 50) rfl
      have hgm : vg = .bool true := mg
      subst hgm
      refine ⟨wanted_some rfl rfl hgd, fun K hK => ?_⟩
      obtain ⟨v51, h51, m51⟩ := (hD ⟨40, .data⟩ (by simp) rfl).2.at_ (d := 51) rfl
      obtain ⟨v57, h57, m57⟩ := (hD ⟨46, .data⟩ (by simp) rfl).2.at_ (d := 57) rfl
      obtain ⟨v60, h60, m60⟩ := (hD ⟨49, .data⟩ (by simp) rfl).2.at_ (d := 60) rfl
      obtain ⟨v61, h61, m61⟩ := (hD ⟨50, .data⟩ (by simp) rfl).2.at_ (d := 61) rfl
      have hm0 : v51 = .agg #[.slice A g.length cp] := m51
      have hm3 : v61 = .string s := m61
      subst hm0 hm3
      obtain ⟨csa, rfl, hxa⟩ := m57
      obtain ⟨csb, rfl, hxb⟩ := m60
      unfold Oper.wp
      go_simp
      refine (alike_any s (HG.out.grow hC.bel) hxa hxb hg HWF.out (wf_2 (by unfold I64; omega) (wf_1 (by unfold I64; omega) hwa) wf_empty) (wf_1 (by unfold I64; omega) hwa) (fun _ => same_opt)).mono ?_
      rintro e w' ⟨rfl, hb⟩
      exact hK _ _ rfl (hC.below hb) (fun j u _ h => Mn.keep hb h)
    · refine ⟨rfl, fun K hK => ?_⟩
      obtain ⟨v50, h50, m50⟩ := (hD ⟨39, .data⟩ (by simp) rfl).2.at_ (d := 50) rfl
      obtain ⟨v62, h62, m62⟩ := (hD ⟨51, .data⟩ (by simp) rfl).2.at_ (d := 62) rfl
      have hm1 : v50 = .bool true := m50
      have hm2 : v62 = .bool true := m62
      subst hm1 hm2
      unfold Oper.wp
      go_simp
      exact hK _ _ rfl hC (fun j u _ h => Mn.keep (Below.refl _ _) h)
    · refine ⟨rfl, fun K hK => ?_⟩
      obtain ⟨v63, h63, m63⟩ := (hD ⟨52, .data⟩ (by simp) rfl).2.at_ (d := 63) rfl
      have hm : v63 = .bool true := m63
      subst hm
      unfold Oper.wp
      go_simp
      exact hK _ _ rfl hC (fun j u _ h => Mn.keep (Below.refl _ _) h)
  · intro listed act W hC hS hl hM
    obtain ⟨v10, h10, m10⟩ := (hM 53 (by omega)).at_ (d := 10) rfl
    have hm : v10 = .bool true := m10
    subst hm
    go_wp2
    exact bodyPost_ret (v := .bool true) (by simp [results, Try.results9, go_sem, h10]) hS.1 ⟨rfl, hw0.trans (hC.bel.mono hw0.size)⟩
end Go.Proofs.Ytapihikbdcplaaa
