/- The walk of the law PackNots. -/
import Derived.Test.YtapihikbdcplaaaWhF
import Derived.Test.YtapihikbdcplaaaRgK
namespace Go.Proofs.Ytapihikbdcplaaa
open Go.RowKit Go.Maps

/-- what the first statement's operations make -/
def notsM (w0 : World) (ca cb : Array Value) (_ : Array Bool) (j : Nat) (v : Value) (w : World) : Prop := match j with
  | 0 => v = .agg ca
  | 1 => ∃ b, v = .slice (some ⟨b, 0, none⟩) 1 1 ∧ Blk w b 34 ca ∧ w0.heap.size ≤ b
  | 2 => ∃ b, v = .agg (exCells 11 0 0 0 0 ⟨#[]⟩ (some ⟨b, 0, none⟩) 1 1).toArray ∧ Blk w b 34 ca ∧ w0.heap.size ≤ b
  | 3 => v = .agg cb
  | 4 => ∃ b, v = .slice (some ⟨b, 0, none⟩) 1 1 ∧ Blk w b 34 cb ∧ w0.heap.size ≤ b
  | 5 => ∃ b, v = .agg (exCells 10 0 0 0 0 ⟨#[]⟩ (some ⟨b, 0, none⟩) 1 1).toArray ∧ Blk w b 34 cb ∧ w0.heap.size ≤ b
  | 6 => ∃ b, v = .pointer (some ⟨b, 0, none⟩) ∧ Blk w b 34 #[.int .i64 0, .int .u64 0, .int .u64 0, .int .u64 0, .int .u64 0, .string ⟨#[]⟩, .slice none 0 0] ∧ w0.heap.size ≤ b
  | 7 => ∃ b, v = .pointer (some ⟨b, 0, none⟩) ∧ Blk w b 34 #[.int .i64 0, .int .u64 0, .int .u64 0, .int .u64 0, .int .u64 0, .string ⟨#[]⟩, .slice none 0 0] ∧ w0.heap.size ≤ b
  | _ => False
theorem notsM_keep {w0 W W' : World} {ca cb : Array Value} {l l' : Array Bool} {j : Nat} {v : Value} (hb : Below W.heap.size W W') (h : notsM w0 ca cb l j v W) : notsM w0 ca cb l' j v W' := by
  match j, h with
  | 0, h => exact h
  | 1, h => obtain ⟨b, h1, h2, h3⟩ := h; exact ⟨b, h1, h2.below hb h2.lt, h3⟩
  | 2, h => obtain ⟨b, h1, h2, h3⟩ := h; exact ⟨b, h1, h2.below hb h2.lt, h3⟩
  | 3, h => exact h
  | 4, h => obtain ⟨b, h1, h2, h3⟩ := h; exact ⟨b, h1, h2.below hb h2.lt, h3⟩
  | 5, h => obtain ⟨b, h1, h2, h3⟩ := h; exact ⟨b, h1, h2.below hb h2.lt, h3⟩
  | 6, h => obtain ⟨b, h1, h2, h3⟩ := h; exact ⟨b, h1, h2.below hb h2.lt, h3⟩
  | 7, h => obtain ⟨b, h1, h2, h3⟩ := h; exact ⟨b, h1, h2.below hb h2.lt, h3⟩
/-- the block that a value names -/
def ownB : Value → Option Nat
  | .pointer (some a) => some a.block
  | .slice (some a) _ _ => some a.block
  | .agg cs => match (cs[6]? : Option Value) with
    | some (Value.slice (some a) _ _) => some a.block
    | _ => none
  | _ => none
/-- the boxes are two, and none of the rows -/
def notsR (i : Nat) (v : Value) (j : Nat) (u : Value) : Prop := ((i = 1 ∨ i = 2 ∨ i = 4 ∨ i = 5) ∧ (j = 6 ∨ j = 7)) ∨ (i = 6 ∧ j = 7) → ownB v ≠ ownB u
theorem notsM_lt {w0 W : World} {ca cb : Array Value} {l : Array Bool} {j : Nat} {v : Value} (h : notsM w0 ca cb l j v W) (hj : j ≠ 0) (hj' : j ≠ 3) : ∃ b, ownB v = some b ∧ b < W.heap.size := by
  match j, h with
  | 0, h => exact absurd rfl hj
  | 3, h => exact absurd rfl hj'
  | 1, h => obtain ⟨b, rfl, h2, h3⟩ := h; exact ⟨b, rfl, h2.lt⟩
  | 2, h => obtain ⟨b, rfl, h2, h3⟩ := h; exact ⟨b, rfl, h2.lt⟩
  | 4, h => obtain ⟨b, rfl, h2, h3⟩ := h; exact ⟨b, rfl, h2.lt⟩
  | 5, h => obtain ⟨b, rfl, h2, h3⟩ := h; exact ⟨b, rfl, h2.lt⟩
  | 6, h => obtain ⟨b, rfl, h2, h3⟩ := h; exact ⟨b, rfl, h2.lt⟩
  | 7, h => obtain ⟨b, rfl, h2, h3⟩ := h; exact ⟨b, rfl, h2.lt⟩
theorem notsR_new {w0 W : World} {ca cb : Array Value} {l : Array Bool} {i j : Nat} {v u : Value} (h : notsM w0 ca cb l j u W) (hv : ownB v = some W.heap.size) : notsR i v j u ∧ notsR j u i v := by
  refine ⟨fun hc => ?_, fun hc => ?_⟩
  · obtain ⟨b, hb, hlt⟩ := notsM_lt h (by omega) (by omega)
    rw [hv, hb]
    intro e
    injection e with e
    omega
  · obtain ⟨b, hb, hlt⟩ := notsM_lt h (by omega) (by omega)
    rw [hv, hb]
    intro e
    injection e with e
    omega

set_option maxRecDepth 100000 in
set_option maxHeartbeats 32000000 in
theorem walk_PackNots {g : List Rl} {A : Option Addr} {cp : Nat} {row : Nat → List Value} {ea eb : Ex} {ca cb : List Value} (s : ByteArray) (w : World) (h : GrIs w w.heap.size g A cp row) (hwf : ∀ r ∈ g, WfE r.2) (hg : g.length ≤ 1466015503690)
    (ha : ExIs w w.heap.size ea ca) (hwa : WfE ea) (hb : ExIs w w.heap.size eb cb) (hwb : WfE eb) :
    Calls Try.prog 11 #[.agg #[.slice A g.length cp], .agg ca.toArray, .agg cb.toArray, .string s] w fun e w' => e = .returned (.bool true) ∧ Below w.heap.size w w' := by
  obtain ⟨ak, a1, a2, a3, a4, ats, aA, an, ap, rfl⟩ := Ex.parts _ ha
  obtain ⟨bk, b1, b2, b3, b4, bts, bA, bn, bp, rfl⟩ := Ex.parts _ hb
  have HWF := Lib.hid hwf
  have HG0 := Lib.hid h
  have HA0 := Lib.hid ha
  have HB0 := Lib.hid hb
  clear h hwf ha hb
  go_enter Try.func11, Try.ntmps11
  go_wp2_with fail
  have hw0 : Below w.heap.size w (((w.alloc (.cells #[.slice A g.length cp] 24)).alloc (.cells #[.int .i64 ak, .int .u64 a1, .int .u64 a2, .int .u64 a3, .int .u64 a4, .string ats, .slice aA an ap] 34)).alloc (.cells #[.int .i64 bk, .int .u64 b1, .int .u64 b2, .int .u64 b3, .int .u64 b4, .string bts, .slice bA bn bp] 34)) := (by repeat (first | exact Below.refl _ _ | assumption | refine Below.drew ?_ | refine below_drewN ?_ _ | refine Below.alloc ?_ (by first | omega | (simp; omega) | simp) _ | refine Below.setCell ?_ (by first | omega | (simp; omega) | simp) _))
  have hgx : Blk (((w.alloc (.cells #[.slice A g.length cp] 24)).alloc (.cells #[.int .i64 ak, .int .u64 a1, .int .u64 a2, .int .u64 a3, .int .u64 a4, .string ats, .slice aA an ap] 34)).alloc (.cells #[.int .i64 bk, .int .u64 b1, .int .u64 b2, .int .u64 b3, .int .u64 b4, .string bts, .slice bA bn bp] 34)) w.heap.size 24 #[.slice A g.length cp] := ((blk_at rfl).alloc _).alloc _
  have hax : Blk (((w.alloc (.cells #[.slice A g.length cp] 24)).alloc (.cells #[.int .i64 ak, .int .u64 a1, .int .u64 a2, .int .u64 a3, .int .u64 a4, .string ats, .slice aA an ap] 34)).alloc (.cells #[.int .i64 bk, .int .u64 b1, .int .u64 b2, .int .u64 b3, .int .u64 b4, .string bts, .slice bA bn bp] 34)) (w.heap.size + 1) 34 #[.int .i64 ak, .int .u64 a1, .int .u64 a2, .int .u64 a3, .int .u64 a4, .string ats, .slice aA an ap] := (blk_at (by simp)).alloc _
  have hbx : Blk (((w.alloc (.cells #[.slice A g.length cp] 24)).alloc (.cells #[.int .i64 ak, .int .u64 a1, .int .u64 a2, .int .u64 a3, .int .u64 a4, .string ats, .slice aA an ap] 34)).alloc (.cells #[.int .i64 bk, .int .u64 b1, .int .u64 b2, .int .u64 b3, .int .u64 b4, .string bts, .slice bA bn bp] 34)) (w.heap.size + 1 + 1) 34 #[.int .i64 bk, .int .u64 b1, .int .u64 b2, .int .u64 b3, .int .u64 b4, .string bts, .slice bA bn bp] := blk_at (by simp)
  generalize (((w.alloc (.cells #[.slice A g.length cp] 24)).alloc (.cells #[.int .i64 ak, .int .u64 a1, .int .u64 a2, .int .u64 a3, .int .u64 a4, .string ats, .slice aA an ap] 34)).alloc (.cells #[.int .i64 bk, .int .u64 b1, .int .u64 b2, .int .u64 b3, .int .u64 b4, .string bts, .slice bA bn bp] 34)) = w0 at hw0 hgx hax hbx ⊢
  have HG := Lib.hid (HG0.out.grow hw0)
  have HA := Lib.hid (HA0.out.grow hw0)
  have HB := Lib.hid (HB0.out.grow hw0)
  have hC0 : LawC w0 w.heap.size g.length A cp [(w.heap.size + 1, [.int .i64 ak, .int .u64 a1, .int .u64 a2, .int .u64 a3, .int .u64 a4, .string ats, .slice aA an ap]), (w.heap.size + 1 + 1, [.int .i64 bk, .int .u64 b1, .int .u64 b2, .int .u64 b3, .int .u64 b4, .string bts, .slice bA bn bp])] w0 :=
    ⟨Below.refl _ _, hgx, fun i p hp => by
      match i, hp with
      | 0, hp => simp only [List.getElem?_cons_zero, Option.some.injEq] at hp; subst hp; exact hax
      | 1, hp => simp only [List.getElem?_cons_succ, List.getElem?_cons_zero, Option.some.injEq] at hp; subst hp; exact hbx
      | n + 2, hp => simp at hp⟩
  have hbl0 := hbx.lt
  clear HG0 HA0 HB0 hgx hax hbx
  refine wp_region_invT (LawC w0 w.heap.size g.length A cp [(w.heap.size + 1, [.int .i64 ak, .int .u64 a1, .int .u64 a2, .int .u64 a3, .int .u64 a4, .string ats, .slice aA an ap]), (w.heap.size + 1 + 1, [.int .i64 bk, .int .u64 b1, .int .u64 b2, .int .u64 b3, .int .u64 b4, .string bts, .slice bA bn bp])]) (notsM w0 #[.int .i64 ak, .int .u64 a1, .int .u64 a2, .int .u64 a3, .int .u64 a4, .string ats, .slice aA an ap] #[.int .i64 bk, .int .u64 b1, .int .u64 b2, .int .u64 b3, .int .u64 b4, .string bts, .slice bA bn bp]) notsR 8 (by decide) (by kernel_rfl) (by kernel_rfl) (by kernel_rfl) (by kernel_rfl) (by kernel_rfl) (by kernel_rfl) (hC0.below ((Below.refl _ _).drew)) ?_ ?_
  · intro i o hi ho
    have hiN : i = 0 ∨ i = 1 ∨ i = 2 ∨ i = 3 ∨ i = 4 ∨ i = 5 ∨ i = 6 ∨ i = 7 := by omega
    rcases hiN with rfl | rfl | rfl | rfl | rfl | rfl | rfl | rfl
    all_goals
      simp only [List.getElem?_toArray, List.getElem?_cons_zero, List.getElem?_cons_succ, Option.some.injEq] at ho
      subst ho
      intro listed act W hls hun hC hS hD hP
      refine ⟨rfl, fun K hK => ?_⟩
    · have h5 : act.tmps[5]? = some (.pointer (some ⟨w.heap.size + 1, 0, none⟩)) := (hS.at_ 5 (by kernel_rfl)).trans rfl
      have hbx := hC.ex 0 _ rfl
      have x0 : W.cell? ⟨w.heap.size + 1, 0, none⟩ = some (.int .i64 ak) := hbx.cell 0; have x1 : W.cell? ⟨w.heap.size + 1, 1, none⟩ = some (.int .u64 a1) := hbx.cell 1; have x2 : W.cell? ⟨w.heap.size + 1, 2, none⟩ = some (.int .u64 a2) := hbx.cell 2; have x3 : W.cell? ⟨w.heap.size + 1, 3, none⟩ = some (.int .u64 a3) := hbx.cell 3; have x4 : W.cell? ⟨w.heap.size + 1, 4, none⟩ = some (.int .u64 a4) := hbx.cell 4; have x5 : W.cell? ⟨w.heap.size + 1, 5, none⟩ = some (.string ats) := hbx.cell 5; have x6 : W.cell? ⟨w.heap.size + 1, 6, none⟩ = some (.slice aA an ap) := hbx.cell 6
      unfold Oper.wp
      go_simp
      exact hK _ _ rfl hC (fun j u _ h => notsM_keep (Below.refl _ _) h) (fun j u _ _ _ _ => ⟨fun hc => by omega, fun hc => by omega⟩)
    · obtain ⟨v11, h11, m11⟩ := (hD ⟨0, .data⟩ (by simp) rfl).2.at_ (d := 11) rfl
      have hm : v11 = .agg #[.int .i64 ak, .int .u64 a1, .int .u64 a2, .int .u64 a3, .int .u64 a4, .string ats, .slice aA an ap] := m11
      subst hm
      unfold Oper.wp
      go_simp
      have hbb : Below W.heap.size W (W.alloc (.cells #[.int .i64 ak, .int .u64 a1, .int .u64 a2, .int .u64 a3, .int .u64 a4, .string ats, .slice aA an ap] 34)) := (Below.refl _ _).alloc (Nat.le_refl _) _
      exact hK _ _ ⟨W.heap.size, rfl, blk_at rfl, hC.bel.size⟩ (hC.below hbb) (fun j u _ h => notsM_keep hbb h) (fun j u _ _ _ hM => notsR_new hM rfl)
    · obtain ⟨v12, h12, m12⟩ := (hD ⟨1, .data⟩ (by simp) rfl).2.at_ (d := 12) rfl
      obtain ⟨bb, rfl, hbk, hle⟩ := m12
      have hl1 := (hD ⟨1, .data⟩ (by simp) rfl).1
      unfold Oper.wp
      go_simp
      refine (of_b _ _ _ _ W).mono ?_
      rintro e w' ⟨rfl, hb⟩
      exact hK _ _ ⟨bb, rfl, hbk.below hb hbk.lt, hle⟩ (hC.below hb) (fun j u _ h => notsM_keep hb h) (fun j u _ hlj hla _ => ⟨fun hc => by
        obtain ⟨oj, dj, h1, h2, h3⟩ := hla
        have hq := hP 1 j _ oj _ dj _ u (by omega) hl1 hlj rfl h1 rfl h2 h12 h3 (by omega)
        exact hq, fun hc => by omega⟩)
    · have h6 : act.tmps[6]? = some (.pointer (some ⟨w.heap.size + 1 + 1, 0, none⟩)) := (hS.at_ 6 (by kernel_rfl)).trans rfl
      have hbx := hC.ex 1 _ rfl
      have x0 : W.cell? ⟨w.heap.size + 1 + 1, 0, none⟩ = some (.int .i64 bk) := hbx.cell 0; have x1 : W.cell? ⟨w.heap.size + 1 + 1, 1, none⟩ = some (.int .u64 b1) := hbx.cell 1; have x2 : W.cell? ⟨w.heap.size + 1 + 1, 2, none⟩ = some (.int .u64 b2) := hbx.cell 2; have x3 : W.cell? ⟨w.heap.size + 1 + 1, 3, none⟩ = some (.int .u64 b3) := hbx.cell 3; have x4 : W.cell? ⟨w.heap.size + 1 + 1, 4, none⟩ = some (.int .u64 b4) := hbx.cell 4; have x5 : W.cell? ⟨w.heap.size + 1 + 1, 5, none⟩ = some (.string bts) := hbx.cell 5; have x6 : W.cell? ⟨w.heap.size + 1 + 1, 6, none⟩ = some (.slice bA bn bp) := hbx.cell 6
      unfold Oper.wp
      go_simp
      exact hK _ _ rfl hC (fun j u _ h => notsM_keep (Below.refl _ _) h) (fun j u _ _ _ _ => ⟨fun hc => by omega, fun hc => by omega⟩)
    · obtain ⟨v14, h14, m14⟩ := (hD ⟨3, .data⟩ (by simp) rfl).2.at_ (d := 14) rfl
      have hm : v14 = .agg #[.int .i64 bk, .int .u64 b1, .int .u64 b2, .int .u64 b3, .int .u64 b4, .string bts, .slice bA bn bp] := m14
      subst hm
      unfold Oper.wp
      go_simp
      have hbb : Below W.heap.size W (W.alloc (.cells #[.int .i64 bk, .int .u64 b1, .int .u64 b2, .int .u64 b3, .int .u64 b4, .string bts, .slice bA bn bp] 34)) := (Below.refl _ _).alloc (Nat.le_refl _) _
      exact hK _ _ ⟨W.heap.size, rfl, blk_at rfl, hC.bel.size⟩ (hC.below hbb) (fun j u _ h => notsM_keep hbb h) (fun j u _ _ _ hM => notsR_new hM rfl)
    · obtain ⟨v15, h15, m15⟩ := (hD ⟨4, .data⟩ (by simp) rfl).2.at_ (d := 15) rfl
      obtain ⟨bb, rfl, hbk, hle⟩ := m15
      have hl1 := (hD ⟨4, .data⟩ (by simp) rfl).1
      unfold Oper.wp
      go_simp
      refine (of_b _ _ _ _ W).mono ?_
      rintro e w' ⟨rfl, hb⟩
      exact hK _ _ ⟨bb, rfl, hbk.below hb hbk.lt, hle⟩ (hC.below hb) (fun j u _ h => notsM_keep hb h) (fun j u _ hlj hla _ => ⟨fun hc => by
        obtain ⟨oj, dj, h1, h2, h3⟩ := hla
        have hq := hP 4 j _ oj _ dj _ u (by omega) hl1 hlj rfl h1 rfl h2 h15 h3 (by omega)
        exact hq, fun hc => by omega⟩)
    · unfold Oper.wp
      go_simp
      have hbb : Below W.heap.size W (W.alloc (.cells #[.int .i64 0, .int .u64 0, .int .u64 0, .int .u64 0, .int .u64 0, .string ⟨#[]⟩, .slice none 0 0] 34)) := (Below.refl _ _).alloc (Nat.le_refl _) _
      exact hK _ _ ⟨W.heap.size, rfl, blk_at rfl, hC.bel.size⟩ (hC.below hbb) (fun j u _ h => notsM_keep hbb h) (fun j u _ _ _ hM => notsR_new hM rfl)
    · unfold Oper.wp
      go_simp
      have hbb : Below W.heap.size W (W.alloc (.cells #[.int .i64 0, .int .u64 0, .int .u64 0, .int .u64 0, .int .u64 0, .string ⟨#[]⟩, .slice none 0 0] 34)) := (Below.refl _ _).alloc (Nat.le_refl _) _
      exact hK _ _ ⟨W.heap.size, rfl, blk_at rfl, hC.bel.size⟩ (hC.below hbb) (fun j u _ h => notsM_keep hbb h) (fun j u _ _ _ hM => notsR_new hM rfl)
  · intro listed act W hC hS hl hM hR
    obtain ⟨v9, h9, b9, rfl, hb9, hle9⟩ := (hM 6 (by omega)).at_ (d := 9) rfl
    obtain ⟨v10, h10, b10, rfl, hb10, hle10⟩ := (hM 7 (by omega)).at_ (d := 10) rfl
    obtain ⟨v11, h11, _⟩ := (hM 0 (by omega)).at_ (d := 11) rfl
    obtain ⟨v12, h12, _⟩ := (hM 1 (by omega)).at_ (d := 12) rfl
    obtain ⟨v13, h13, k13, rfl, hk13, hle13⟩ := (hM 2 (by omega)).at_ (d := 13) rfl
    obtain ⟨v14, h14, _⟩ := (hM 3 (by omega)).at_ (d := 14) rfl
    obtain ⟨v15, h15, _⟩ := (hM 4 (by omega)).at_ (d := 15) rfl
    obtain ⟨v16, h16, k16, rfl, hk16, hle16⟩ := (hM 5 (by omega)).at_ (d := 16) rfl
    have hne : b9 ≠ b10 := fun e => hR 6 7 _ _ 9 10 _ _ (by decide) (hl 6 (by omega)) (hl 7 (by omega)) rfl rfl rfl rfl h9 h10 (by omega) (by rw [e])
    have hn1 : k13 ≠ b9 := fun e => hR 2 6 _ _ 13 9 _ _ (by decide) (hl 2 (by omega)) (hl 6 (by omega)) rfl rfl rfl rfl h13 h9 (by omega) (by rw [← e]; rfl)
    have hn2 : k13 ≠ b10 := fun e => hR 2 7 _ _ 13 10 _ _ (by decide) (hl 2 (by omega)) (hl 7 (by omega)) rfl rfl rfl rfl h13 h10 (by omega) (by rw [← e]; rfl)
    have hn3 : k16 ≠ b9 := fun e => hR 5 6 _ _ 16 9 _ _ (by decide) (hl 5 (by omega)) (hl 6 (by omega)) rfl rfl rfl rfl h16 h9 (by omega) (by rw [← e]; rfl)
    have hn4 : k16 ≠ b10 := fun e => hR 5 7 _ _ 16 10 _ _ (by decide) (hl 5 (by omega)) (hl 7 (by omega)) rfl rfl rfl rfl h16 h10 (by omega) (by rw [← e]; rfl)
    have hact := act_eq (act := act) (l := [.agg #[.slice A g.length cp], .agg #[.int .i64 ak, .int .u64 a1, .int .u64 a2, .int .u64 a3, .int .u64 a4, .string ats, .slice aA an ap], .agg #[.int .i64 bk, .int .u64 b1, .int .u64 b2, .int .u64 b3, .int .u64 b4, .string bts, .slice bA bn bp], .string s, .pointer (some ⟨w.heap.size, 0, none⟩), .pointer (some ⟨w.heap.size + 1, 0, none⟩), .pointer (some ⟨w.heap.size + 1 + 1, 0, none⟩), undef, .bool false, .pointer (some ⟨b9, 0, none⟩), .pointer (some ⟨b10, 0, none⟩), v11, v12, .agg (exCells 11 0 0 0 0 ⟨#[]⟩ (some ⟨k13, 0, none⟩) 1 1).toArray, v14, v15, .agg (exCells 10 0 0 0 0 ⟨#[]⟩ (some ⟨k16, 0, none⟩) 1 1).toArray, undef, undef, undef, undef, undef, undef, undef, undef, undef, undef, undef, undef, undef, undef, undef, undef, undef, undef, undef, undef, undef, undef, undef, undef, undef, undef, undef, undef, undef, undef, undef, undef, undef, undef, undef, undef, undef, undef, undef, undef, undef, undef, undef, undef, undef, undef, undef, undef]) hS.2.1 (fun i hi => by
      match i, hi with
      | 0, _ => exact (hS.at_ 0 (by kernel_rfl)).trans rfl
      | 1, _ => exact (hS.at_ 1 (by kernel_rfl)).trans rfl
      | 2, _ => exact (hS.at_ 2 (by kernel_rfl)).trans rfl
      | 3, _ => exact (hS.at_ 3 (by kernel_rfl)).trans rfl
      | 4, _ => exact (hS.at_ 4 (by kernel_rfl)).trans rfl
      | 5, _ => exact (hS.at_ 5 (by kernel_rfl)).trans rfl
      | 6, _ => exact (hS.at_ 6 (by kernel_rfl)).trans rfl
      | 7, _ => exact (hS.at_ 7 (by kernel_rfl)).trans rfl
      | 8, _ => exact (hS.at_ 8 (by kernel_rfl)).trans rfl
      | 9, _ => exact h9
      | 10, _ => exact h10
      | 11, _ => exact h11
      | 12, _ => exact h12
      | 13, _ => exact h13
      | 14, _ => exact h14
      | 15, _ => exact h15
      | 16, _ => exact h16
      | 17, _ => exact (hS.at_ 17 (by kernel_rfl)).trans rfl
      | 18, _ => exact (hS.at_ 18 (by kernel_rfl)).trans rfl
      | 19, _ => exact (hS.at_ 19 (by kernel_rfl)).trans rfl
      | 20, _ => exact (hS.at_ 20 (by kernel_rfl)).trans rfl
      | 21, _ => exact (hS.at_ 21 (by kernel_rfl)).trans rfl
      | 22, _ => exact (hS.at_ 22 (by kernel_rfl)).trans rfl
      | 23, _ => exact (hS.at_ 23 (by kernel_rfl)).trans rfl
      | 24, _ => exact (hS.at_ 24 (by kernel_rfl)).trans rfl
      | 25, _ => exact (hS.at_ 25 (by kernel_rfl)).trans rfl
      | 26, _ => exact (hS.at_ 26 (by kernel_rfl)).trans rfl
      | 27, _ => exact (hS.at_ 27 (by kernel_rfl)).trans rfl
      | 28, _ => exact (hS.at_ 28 (by kernel_rfl)).trans rfl
      | 29, _ => exact (hS.at_ 29 (by kernel_rfl)).trans rfl
      | 30, _ => exact (hS.at_ 30 (by kernel_rfl)).trans rfl
      | 31, _ => exact (hS.at_ 31 (by kernel_rfl)).trans rfl
      | 32, _ => exact (hS.at_ 32 (by kernel_rfl)).trans rfl
      | 33, _ => exact (hS.at_ 33 (by kernel_rfl)).trans rfl
      | 34, _ => exact (hS.at_ 34 (by kernel_rfl)).trans rfl
      | 35, _ => exact (hS.at_ 35 (by kernel_rfl)).trans rfl
      | 36, _ => exact (hS.at_ 36 (by kernel_rfl)).trans rfl
      | 37, _ => exact (hS.at_ 37 (by kernel_rfl)).trans rfl
      | 38, _ => exact (hS.at_ 38 (by kernel_rfl)).trans rfl
      | 39, _ => exact (hS.at_ 39 (by kernel_rfl)).trans rfl
      | 40, _ => exact (hS.at_ 40 (by kernel_rfl)).trans rfl
      | 41, _ => exact (hS.at_ 41 (by kernel_rfl)).trans rfl
      | 42, _ => exact (hS.at_ 42 (by kernel_rfl)).trans rfl
      | 43, _ => exact (hS.at_ 43 (by kernel_rfl)).trans rfl
      | 44, _ => exact (hS.at_ 44 (by kernel_rfl)).trans rfl
      | 45, _ => exact (hS.at_ 45 (by kernel_rfl)).trans rfl
      | 46, _ => exact (hS.at_ 46 (by kernel_rfl)).trans rfl
      | 47, _ => exact (hS.at_ 47 (by kernel_rfl)).trans rfl
      | 48, _ => exact (hS.at_ 48 (by kernel_rfl)).trans rfl
      | 49, _ => exact (hS.at_ 49 (by kernel_rfl)).trans rfl
      | 50, _ => exact (hS.at_ 50 (by kernel_rfl)).trans rfl
      | 51, _ => exact (hS.at_ 51 (by kernel_rfl)).trans rfl
      | 52, _ => exact (hS.at_ 52 (by kernel_rfl)).trans rfl
      | 53, _ => exact (hS.at_ 53 (by kernel_rfl)).trans rfl
      | 54, _ => exact (hS.at_ 54 (by kernel_rfl)).trans rfl
      | 55, _ => exact (hS.at_ 55 (by kernel_rfl)).trans rfl
      | 56, _ => exact (hS.at_ 56 (by kernel_rfl)).trans rfl
      | 57, _ => exact (hS.at_ 57 (by kernel_rfl)).trans rfl
      | 58, _ => exact (hS.at_ 58 (by kernel_rfl)).trans rfl
      | 59, _ => exact (hS.at_ 59 (by kernel_rfl)).trans rfl
      | 60, _ => exact (hS.at_ 60 (by kernel_rfl)).trans rfl
      | 61, _ => exact (hS.at_ 61 (by kernel_rfl)).trans rfl
      | 62, _ => exact (hS.at_ 62 (by kernel_rfl)).trans rfl
      | 63, _ => exact (hS.at_ 63 (by kernel_rfl)).trans rfl
      | 64, _ => exact (hS.at_ 64 (by kernel_rfl)).trans rfl
      | n + 65, hn => exact absurd hn (by simp)) hS.1
    subst hact
    have g0 := hb9
    have x0 : W.cell? ⟨b9, 0, none⟩ = some (.int .i64 0) := hb9.cell 0; have x1 : W.cell? ⟨b9, 1, none⟩ = some (.int .u64 0) := hb9.cell 1; have x2 : W.cell? ⟨b9, 2, none⟩ = some (.int .u64 0) := hb9.cell 2; have x3 : W.cell? ⟨b9, 3, none⟩ = some (.int .u64 0) := hb9.cell 3; have x4 : W.cell? ⟨b9, 4, none⟩ = some (.int .u64 0) := hb9.cell 4; have x5 : W.cell? ⟨b9, 5, none⟩ = some (.string ⟨#[]⟩) := hb9.cell 5; have x6 : W.cell? ⟨b9, 6, none⟩ = some (.slice none 0 0) := hb9.cell 6
    have y0 : W.cell? ⟨b10, 0, none⟩ = some (.int .i64 0) := hb10.cell 0; have y1 : W.cell? ⟨b10, 1, none⟩ = some (.int .u64 0) := hb10.cell 1; have y2 : W.cell? ⟨b10, 2, none⟩ = some (.int .u64 0) := hb10.cell 2; have y3 : W.cell? ⟨b10, 3, none⟩ = some (.int .u64 0) := hb10.cell 3; have y4 : W.cell? ⟨b10, 4, none⟩ = some (.int .u64 0) := hb10.cell 4; have y5 : W.cell? ⟨b10, 5, none⟩ = some (.string ⟨#[]⟩) := hb10.cell 5; have y6 : W.cell? ⟨b10, 6, none⟩ = some (.slice none 0 0) := hb10.cell 6
    have fz9 := hb9.frozen
    have fz10 := hb10.frozen
    clear hM hR hS
    unfold exCells
    simp only [List.drop_succ_cons, List.drop_zero]
    go_wp2_with fail
    have hlg := hC.g.lt
    have hsz0 := hw0.size
    have hq9 : Blk ((((((((((((((W.setCell ⟨b9, 0, none⟩ (.int .i64 11)).setCell ⟨b9, 1, none⟩ (.int .u64 0)).setCell ⟨b9, 2, none⟩ (.int .u64 0)).setCell ⟨b9, 3, none⟩ (.int .u64 0)).setCell ⟨b9, 4, none⟩ (.int .u64 0)).setCell ⟨b9, 5, none⟩ (.string ⟨#[]⟩)).setCell ⟨b9, 6, none⟩ (.slice (some ⟨k13, 0, none⟩) 1 1)).setCell ⟨b10, 0, none⟩ (.int .i64 10)).setCell ⟨b10, 1, none⟩ (.int .u64 0)).setCell ⟨b10, 2, none⟩ (.int .u64 0)).setCell ⟨b10, 3, none⟩ (.int .u64 0)).setCell ⟨b10, 4, none⟩ (.int .u64 0)).setCell ⟨b10, 5, none⟩ (.string ⟨#[]⟩)).setCell ⟨b10, 6, none⟩ (.slice (some ⟨k16, 0, none⟩) 1 1)) b9 34 #[.int .i64 11, .int .u64 0, .int .u64 0, .int .u64 0, .int .u64 0, .string ⟨#[]⟩, .slice (some ⟨k13, 0, none⟩) 1 1] := ((((((((((((((hb9.set_ 0 (.int .i64 11)).set_ 1 (.int .u64 0)).set_ 2 (.int .u64 0)).set_ 3 (.int .u64 0)).set_ 4 (.int .u64 0)).set_ 5 (.string ⟨#[]⟩)).set_ 6 (.slice (some ⟨k13, 0, none⟩) 1 1)).far hne _).far hne _).far hne _).far hne _).far hne _).far hne _).far hne _)
    have hq10 : Blk ((((((((((((((W.setCell ⟨b9, 0, none⟩ (.int .i64 11)).setCell ⟨b9, 1, none⟩ (.int .u64 0)).setCell ⟨b9, 2, none⟩ (.int .u64 0)).setCell ⟨b9, 3, none⟩ (.int .u64 0)).setCell ⟨b9, 4, none⟩ (.int .u64 0)).setCell ⟨b9, 5, none⟩ (.string ⟨#[]⟩)).setCell ⟨b9, 6, none⟩ (.slice (some ⟨k13, 0, none⟩) 1 1)).setCell ⟨b10, 0, none⟩ (.int .i64 10)).setCell ⟨b10, 1, none⟩ (.int .u64 0)).setCell ⟨b10, 2, none⟩ (.int .u64 0)).setCell ⟨b10, 3, none⟩ (.int .u64 0)).setCell ⟨b10, 4, none⟩ (.int .u64 0)).setCell ⟨b10, 5, none⟩ (.string ⟨#[]⟩)).setCell ⟨b10, 6, none⟩ (.slice (some ⟨k16, 0, none⟩) 1 1)) b10 34 #[.int .i64 10, .int .u64 0, .int .u64 0, .int .u64 0, .int .u64 0, .string ⟨#[]⟩, .slice (some ⟨k16, 0, none⟩) 1 1] := ((((((((((((((hb10.far (fun e => hne e.symm) _).far (fun e => hne e.symm) _).far (fun e => hne e.symm) _).far (fun e => hne e.symm) _).far (fun e => hne e.symm) _).far (fun e => hne e.symm) _).far (fun e => hne e.symm) _).set_ 0 (.int .i64 10)).set_ 1 (.int .u64 0)).set_ 2 (.int .u64 0)).set_ 3 (.int .u64 0)).set_ 4 (.int .u64 0)).set_ 5 (.string ⟨#[]⟩)).set_ 6 (.slice (some ⟨k16, 0, none⟩) 1 1))
    have hq13 : Blk ((((((((((((((W.setCell ⟨b9, 0, none⟩ (.int .i64 11)).setCell ⟨b9, 1, none⟩ (.int .u64 0)).setCell ⟨b9, 2, none⟩ (.int .u64 0)).setCell ⟨b9, 3, none⟩ (.int .u64 0)).setCell ⟨b9, 4, none⟩ (.int .u64 0)).setCell ⟨b9, 5, none⟩ (.string ⟨#[]⟩)).setCell ⟨b9, 6, none⟩ (.slice (some ⟨k13, 0, none⟩) 1 1)).setCell ⟨b10, 0, none⟩ (.int .i64 10)).setCell ⟨b10, 1, none⟩ (.int .u64 0)).setCell ⟨b10, 2, none⟩ (.int .u64 0)).setCell ⟨b10, 3, none⟩ (.int .u64 0)).setCell ⟨b10, 4, none⟩ (.int .u64 0)).setCell ⟨b10, 5, none⟩ (.string ⟨#[]⟩)).setCell ⟨b10, 6, none⟩ (.slice (some ⟨k16, 0, none⟩) 1 1)) k13 34 #[.int .i64 ak, .int .u64 a1, .int .u64 a2, .int .u64 a3, .int .u64 a4, .string ats, .slice aA an ap] := ((((((((((((((hk13.far hn1 _).far hn1 _).far hn1 _).far hn1 _).far hn1 _).far hn1 _).far hn1 _).far hn2 _).far hn2 _).far hn2 _).far hn2 _).far hn2 _).far hn2 _).far hn2 _)
    have hq16 : Blk ((((((((((((((W.setCell ⟨b9, 0, none⟩ (.int .i64 11)).setCell ⟨b9, 1, none⟩ (.int .u64 0)).setCell ⟨b9, 2, none⟩ (.int .u64 0)).setCell ⟨b9, 3, none⟩ (.int .u64 0)).setCell ⟨b9, 4, none⟩ (.int .u64 0)).setCell ⟨b9, 5, none⟩ (.string ⟨#[]⟩)).setCell ⟨b9, 6, none⟩ (.slice (some ⟨k13, 0, none⟩) 1 1)).setCell ⟨b10, 0, none⟩ (.int .i64 10)).setCell ⟨b10, 1, none⟩ (.int .u64 0)).setCell ⟨b10, 2, none⟩ (.int .u64 0)).setCell ⟨b10, 3, none⟩ (.int .u64 0)).setCell ⟨b10, 4, none⟩ (.int .u64 0)).setCell ⟨b10, 5, none⟩ (.string ⟨#[]⟩)).setCell ⟨b10, 6, none⟩ (.slice (some ⟨k16, 0, none⟩) 1 1)) k16 34 #[.int .i64 bk, .int .u64 b1, .int .u64 b2, .int .u64 b3, .int .u64 b4, .string bts, .slice bA bn bp] := ((((((((((((((hk16.far hn3 _).far hn3 _).far hn3 _).far hn3 _).far hn3 _).far hn3 _).far hn3 _).far hn4 _).far hn4 _).far hn4 _).far hn4 _).far hn4 _).far hn4 _).far hn4 _)
    have hgb9 : w.heap.size ≠ b9 := by omega
    have hgb10 : w.heap.size ≠ b10 := by omega
    have hqg : Blk ((((((((((((((W.setCell ⟨b9, 0, none⟩ (.int .i64 11)).setCell ⟨b9, 1, none⟩ (.int .u64 0)).setCell ⟨b9, 2, none⟩ (.int .u64 0)).setCell ⟨b9, 3, none⟩ (.int .u64 0)).setCell ⟨b9, 4, none⟩ (.int .u64 0)).setCell ⟨b9, 5, none⟩ (.string ⟨#[]⟩)).setCell ⟨b9, 6, none⟩ (.slice (some ⟨k13, 0, none⟩) 1 1)).setCell ⟨b10, 0, none⟩ (.int .i64 10)).setCell ⟨b10, 1, none⟩ (.int .u64 0)).setCell ⟨b10, 2, none⟩ (.int .u64 0)).setCell ⟨b10, 3, none⟩ (.int .u64 0)).setCell ⟨b10, 4, none⟩ (.int .u64 0)).setCell ⟨b10, 5, none⟩ (.string ⟨#[]⟩)).setCell ⟨b10, 6, none⟩ (.slice (some ⟨k16, 0, none⟩) 1 1)) w.heap.size 24 #[.slice A g.length cp] := ((((((((((((((hC.g.far hgb9 _).far hgb9 _).far hgb9 _).far hgb9 _).far hgb9 _).far hgb9 _).far hgb9 _).far hgb10 _).far hgb10 _).far hgb10 _).far hgb10 _).far hgb10 _).far hgb10 _).far hgb10 _)
    have hab9 : w.heap.size + 1 ≠ b9 := by omega
    have hab10 : w.heap.size + 1 ≠ b10 := by omega
    have hqa : Blk ((((((((((((((W.setCell ⟨b9, 0, none⟩ (.int .i64 11)).setCell ⟨b9, 1, none⟩ (.int .u64 0)).setCell ⟨b9, 2, none⟩ (.int .u64 0)).setCell ⟨b9, 3, none⟩ (.int .u64 0)).setCell ⟨b9, 4, none⟩ (.int .u64 0)).setCell ⟨b9, 5, none⟩ (.string ⟨#[]⟩)).setCell ⟨b9, 6, none⟩ (.slice (some ⟨k13, 0, none⟩) 1 1)).setCell ⟨b10, 0, none⟩ (.int .i64 10)).setCell ⟨b10, 1, none⟩ (.int .u64 0)).setCell ⟨b10, 2, none⟩ (.int .u64 0)).setCell ⟨b10, 3, none⟩ (.int .u64 0)).setCell ⟨b10, 4, none⟩ (.int .u64 0)).setCell ⟨b10, 5, none⟩ (.string ⟨#[]⟩)).setCell ⟨b10, 6, none⟩ (.slice (some ⟨k16, 0, none⟩) 1 1)) (w.heap.size + 1) 34 #[.int .i64 ak, .int .u64 a1, .int .u64 a2, .int .u64 a3, .int .u64 a4, .string ats, .slice aA an ap] := (((((((((((((((hC.ex 0 _ rfl).far hab9 _).far hab9 _).far hab9 _).far hab9 _).far hab9 _).far hab9 _).far hab9 _).far hab10 _).far hab10 _).far hab10 _).far hab10 _).far hab10 _).far hab10 _).far hab10 _)
    have hbb9 : w.heap.size + 1 + 1 ≠ b9 := by omega
    have hbb10 : w.heap.size + 1 + 1 ≠ b10 := by omega
    have hqb : Blk ((((((((((((((W.setCell ⟨b9, 0, none⟩ (.int .i64 11)).setCell ⟨b9, 1, none⟩ (.int .u64 0)).setCell ⟨b9, 2, none⟩ (.int .u64 0)).setCell ⟨b9, 3, none⟩ (.int .u64 0)).setCell ⟨b9, 4, none⟩ (.int .u64 0)).setCell ⟨b9, 5, none⟩ (.string ⟨#[]⟩)).setCell ⟨b9, 6, none⟩ (.slice (some ⟨k13, 0, none⟩) 1 1)).setCell ⟨b10, 0, none⟩ (.int .i64 10)).setCell ⟨b10, 1, none⟩ (.int .u64 0)).setCell ⟨b10, 2, none⟩ (.int .u64 0)).setCell ⟨b10, 3, none⟩ (.int .u64 0)).setCell ⟨b10, 4, none⟩ (.int .u64 0)).setCell ⟨b10, 5, none⟩ (.string ⟨#[]⟩)).setCell ⟨b10, 6, none⟩ (.slice (some ⟨k16, 0, none⟩) 1 1)) (w.heap.size + 1 + 1) 34 #[.int .i64 bk, .int .u64 b1, .int .u64 b2, .int .u64 b3, .int .u64 b4, .string bts, .slice bA bn bp] := (((((((((((((((hC.ex 1 _ rfl).far hbb9 _).far hbb9 _).far hbb9 _).far hbb9 _).far hbb9 _).far hbb9 _).far hbb9 _).far hbb10 _).far hbb10 _).far hbb10 _).far hbb10 _).far hbb10 _).far hbb10 _).far hbb10 _)
    have hqB : Below w0.heap.size w0 ((((((((((((((W.setCell ⟨b9, 0, none⟩ (.int .i64 11)).setCell ⟨b9, 1, none⟩ (.int .u64 0)).setCell ⟨b9, 2, none⟩ (.int .u64 0)).setCell ⟨b9, 3, none⟩ (.int .u64 0)).setCell ⟨b9, 4, none⟩ (.int .u64 0)).setCell ⟨b9, 5, none⟩ (.string ⟨#[]⟩)).setCell ⟨b9, 6, none⟩ (.slice (some ⟨k13, 0, none⟩) 1 1)).setCell ⟨b10, 0, none⟩ (.int .i64 10)).setCell ⟨b10, 1, none⟩ (.int .u64 0)).setCell ⟨b10, 2, none⟩ (.int .u64 0)).setCell ⟨b10, 3, none⟩ (.int .u64 0)).setCell ⟨b10, 4, none⟩ (.int .u64 0)).setCell ⟨b10, 5, none⟩ (.string ⟨#[]⟩)).setCell ⟨b10, 6, none⟩ (.slice (some ⟨k16, 0, none⟩) 1 1)) := ((((((((((((((hC.bel.setCell hle9 _).setCell hle9 _).setCell hle9 _).setCell hle9 _).setCell hle9 _).setCell hle9 _).setCell hle9 _).setCell hle10 _).setCell hle10 _).setCell hle10 _).setCell hle10 _).setCell hle10 _).setCell hle10 _).setCell hle10 _)
    have HG1 := Lib.hid (HG.out.grow hqB)
    have HA1 := Lib.hid (HA.out.grow hqB)
    have HB1 := Lib.hid (HB.out.grow hqB)
    have HX := Lib.hid (ex_one (HA.out.grow hqB) hq13 rfl 11)
    have HY := Lib.hid (ex_one (HB.out.grow hqB) hq16 rfl 10)
    have hw1 : Below w.heap.size w ((((((((((((((W.setCell ⟨b9, 0, none⟩ (.int .i64 11)).setCell ⟨b9, 1, none⟩ (.int .u64 0)).setCell ⟨b9, 2, none⟩ (.int .u64 0)).setCell ⟨b9, 3, none⟩ (.int .u64 0)).setCell ⟨b9, 4, none⟩ (.int .u64 0)).setCell ⟨b9, 5, none⟩ (.string ⟨#[]⟩)).setCell ⟨b9, 6, none⟩ (.slice (some ⟨k13, 0, none⟩) 1 1)).setCell ⟨b10, 0, none⟩ (.int .i64 10)).setCell ⟨b10, 1, none⟩ (.int .u64 0)).setCell ⟨b10, 2, none⟩ (.int .u64 0)).setCell ⟨b10, 3, none⟩ (.int .u64 0)).setCell ⟨b10, 4, none⟩ (.int .u64 0)).setCell ⟨b10, 5, none⟩ (.string ⟨#[]⟩)).setCell ⟨b10, 6, none⟩ (.slice (some ⟨k16, 0, none⟩) 1 1)) := hw0.trans (hqB.mono hw0.size)
    generalize ((((((((((((((W.setCell ⟨b9, 0, none⟩ (.int .i64 11)).setCell ⟨b9, 1, none⟩ (.int .u64 0)).setCell ⟨b9, 2, none⟩ (.int .u64 0)).setCell ⟨b9, 3, none⟩ (.int .u64 0)).setCell ⟨b9, 4, none⟩ (.int .u64 0)).setCell ⟨b9, 5, none⟩ (.string ⟨#[]⟩)).setCell ⟨b9, 6, none⟩ (.slice (some ⟨k13, 0, none⟩) 1 1)).setCell ⟨b10, 0, none⟩ (.int .i64 10)).setCell ⟨b10, 1, none⟩ (.int .u64 0)).setCell ⟨b10, 2, none⟩ (.int .u64 0)).setCell ⟨b10, 3, none⟩ (.int .u64 0)).setCell ⟨b10, 4, none⟩ (.int .u64 0)).setCell ⟨b10, 5, none⟩ (.string ⟨#[]⟩)).setCell ⟨b10, 6, none⟩ (.slice (some ⟨k16, 0, none⟩) 1 1)) = w0 at hq9 hq10 hqg hqa hqb HG1 HA1 HB1 HX HY hw1 ⊢
    clear hq13 hq16 hqB hb9 hb10 hk13 hk16 hC hC0 HG HA HB
    clear hw0
    unfold exCells at HX HY
    have HG := HG1
    have HA := HA1
    have HB := HB1
    have hw0 := hw1
    clear HG1 HA1 HB1 hw1
    have hC0 : LawC w0 w.heap.size g.length A cp [(w.heap.size + 1, [.int .i64 ak, .int .u64 a1, .int .u64 a2, .int .u64 a3, .int .u64 a4, .string ats, .slice aA an ap]), (w.heap.size + 1 + 1, [.int .i64 bk, .int .u64 b1, .int .u64 b2, .int .u64 b3, .int .u64 b4, .string bts, .slice bA bn bp]), (b9, [.int .i64 11, .int .u64 0, .int .u64 0, .int .u64 0, .int .u64 0, .string ⟨#[]⟩, .slice (some ⟨k13, 0, none⟩) 1 1]), (b10, [.int .i64 10, .int .u64 0, .int .u64 0, .int .u64 0, .int .u64 0, .string ⟨#[]⟩, .slice (some ⟨k16, 0, none⟩) 1 1])] w0 :=
      ⟨Below.refl _ _, hqg, fun i p hp => by
        match i, hp with
        | 0, hp => simp only [List.getElem?_cons_zero, Option.some.injEq] at hp; subst hp; exact hqa
        | 1, hp => simp only [List.getElem?_cons_succ, List.getElem?_cons_zero, Option.some.injEq] at hp; subst hp; exact hqb
        | 2, hp => simp only [List.getElem?_cons_succ, List.getElem?_cons_zero, Option.some.injEq] at hp; subst hp; exact hq9
        | 3, hp => simp only [List.getElem?_cons_succ, List.getElem?_cons_zero, Option.some.injEq] at hp; subst hp; exact hq10
        | n + 4, hp => simp at hp⟩
    clear hqg hqa hqb hq9 hq10
    clear hl
    refine wp_region_all (LawC w0 w.heap.size g.length A cp [(w.heap.size + 1, [.int .i64 ak, .int .u64 a1, .int .u64 a2, .int .u64 a3, .int .u64 a4, .string ats, .slice aA an ap]), (w.heap.size + 1 + 1, [.int .i64 bk, .int .u64 b1, .int .u64 b2, .int .u64 b3, .int .u64 b4, .string bts, .slice bA bn bp]), (b9, [.int .i64 11, .int .u64 0, .int .u64 0, .int .u64 0, .int .u64 0, .string ⟨#[]⟩, .slice (some ⟨k13, 0, none⟩) 1 1]), (b10, [.int .i64 10, .int .u64 0, .int .u64 0, .int .u64 0, .int .u64 0, .string ⟨#[]⟩, .slice (some ⟨k16, 0, none⟩) 1 1])]) (mnM [.v (.bool true), .v (.bool true), .v (.agg #[.slice A g.length cp]), .e (ofN 11 [ea]), .k [(ofN 11 [ea])], .e (ofN 11 [(ofN 11 [ea])]), .k [(ofN 11 [(ofN 11 [ea])])], .e (ofN 11 [(ofN 11 [(ofN 11 [ea])])]), .e (ofN 11 [ea]), .v (.string s), .v (.bool true), .v (.bool true), .v (.bool true), .v (.agg #[.slice A g.length cp]), .e ea, .k [ea], .e (ofN 10 [ea]), .e (ofN 11 [ea]), .k [(ofN 11 [ea])], .e (ofN 11 [(ofN 11 [ea])]), .v (.string s), .v (.bool true), .v (.bool true), .v (.bool true), .v (.agg #[.slice A g.length cp]), .e (ofN 11 [ea]), .e (ofN 10 [eb]), .k [(ofN 11 [ea]), (ofN 10 [eb])], .e (ofN 5 [(ofN 11 [ea]), (ofN 10 [eb])]), .e (ofN 10 [eb]), .e (ofN 11 [ea]), .k [(ofN 10 [eb]), (ofN 11 [ea])], .e (ofN 5 [(ofN 10 [eb]), (ofN 11 [ea])]), .v (.string s), .v (.bool true), .v (.bool true), .v (.bool true), .v (.agg #[.slice A g.length cp]), .e ea, .k [ea], .e (ofN 10 [ea]), .e (ofN 11 [ea]), .k [(ofN 10 [ea]), (ofN 11 [ea])], .e (ofN 6 [(ofN 10 [ea]), (ofN 11 [ea])]), .e emptyX, .v (.string s), .v (.bool true), .v (.bool true), .v (.bool true)]) 49 rfl (by kernel_rfl) (by kernel_rfl) (by kernel_rfl) (by kernel_rfl) (hC0.below ((Below.refl _ _).drew)) ?_ ?_
    · intro i o hi ho
      have hiN : i = 0 ∨ i = 1 ∨ i = 2 ∨ i = 3 ∨ i = 4 ∨ i = 5 ∨ i = 6 ∨ i = 7 ∨ i = 8 ∨ i = 9 ∨ i = 10 ∨ i = 11 ∨ i = 12 ∨ i = 13 ∨ i = 14 ∨ i = 15 ∨ i = 16 ∨ i = 17 ∨ i = 18 ∨ i = 19 ∨ i = 20 ∨ i = 21 ∨ i = 22 ∨ i = 23 ∨ i = 24 ∨ i = 25 ∨ i = 26 ∨ i = 27 ∨ i = 28 ∨ i = 29 ∨ i = 30 ∨ i = 31 ∨ i = 32 ∨ i = 33 ∨ i = 34 ∨ i = 35 ∨ i = 36 ∨ i = 37 ∨ i = 38 ∨ i = 39 ∨ i = 40 ∨ i = 41 ∨ i = 42 ∨ i = 43 ∨ i = 44 ∨ i = 45 ∨ i = 46 ∨ i = 47 ∨ i = 48 := by omega
      rcases hiN with rfl | rfl | rfl | rfl | rfl | rfl | rfl | rfl | rfl | rfl | rfl | rfl | rfl | rfl | rfl | rfl | rfl | rfl | rfl | rfl | rfl | rfl | rfl | rfl | rfl | rfl | rfl | rfl | rfl | rfl | rfl | rfl | rfl | rfl | rfl | rfl | rfl | rfl | rfl | rfl | rfl | rfl | rfl | rfl | rfl | rfl | rfl | rfl | rfl
      all_goals
        simp only [List.getElem?_toArray, List.getElem?_cons_zero, List.getElem?_cons_succ, Option.some.injEq] at ho
        subst ho
        intro listed act W hls hun hC hS hD
      · refine ⟨rfl, fun K hK => ?_⟩
        unfold Oper.wp
        go_simp
        refine (sound_b W).mono ?_
        rintro e w' ⟨rfl, hb⟩
        exact hK _ _ rfl (hC.below hb) (fun j u _ h => Mn.keep hb h)
      · refine ⟨rfl, fun K hK => ?_⟩
        obtain ⟨v17, h17, m17⟩ := (hD ⟨0, .data⟩ (by simp) rfl).2.at_ (d := 17) rfl
        have hm : v17 = .bool true := m17
        subst hm
        unfold Oper.wp
        go_simp
        exact hK _ _ rfl hC (fun j u _ h => Mn.keep (Below.refl _ _) h)
      · obtain ⟨vg, hgd, mg⟩ := (hD ⟨1, .guard⟩ (by simp) rfl).2.at_ (d := 18) rfl
        have hgm : vg = .bool true := mg
        subst hgm
        refine ⟨wanted_some rfl rfl hgd, fun K hK => ?_⟩
        have h4 : act.tmps[4]? = some (.pointer (some ⟨w.heap.size, 0, none⟩)) := (hS.at_ 4 (by kernel_rfl)).trans rfl
        have g0 : W.cell? ⟨w.heap.size, 0, none⟩ = some (.slice A g.length cp) := hC.g.cell 0
        unfold Oper.wp
        go_simp
        exact hK _ _ rfl hC (fun j u _ h => Mn.keep (Below.refl _ _) h)
      · obtain ⟨vg, hgd, mg⟩ := (hD ⟨1, .guard⟩ (by simp) rfl).2.at_ (d := 18) rfl
        have hgm : vg = .bool true := mg
        subst hgm
        refine ⟨wanted_some rfl rfl hgd, fun K hK => ?_⟩
        have h9 : act.tmps[9]? = some (.pointer (some ⟨b9, 0, none⟩)) := (hS.at_ 9 (by kernel_rfl)).trans rfl
        have hbx := hC.ex 2 _ rfl
        have x0 : W.cell? ⟨b9, 0, none⟩ = some (.int .i64 11) := hbx.cell 0; have x1 : W.cell? ⟨b9, 1, none⟩ = some (.int .u64 0) := hbx.cell 1; have x2 : W.cell? ⟨b9, 2, none⟩ = some (.int .u64 0) := hbx.cell 2; have x3 : W.cell? ⟨b9, 3, none⟩ = some (.int .u64 0) := hbx.cell 3; have x4 : W.cell? ⟨b9, 4, none⟩ = some (.int .u64 0) := hbx.cell 4; have x5 : W.cell? ⟨b9, 5, none⟩ = some (.string ⟨#[]⟩) := hbx.cell 5; have x6 : W.cell? ⟨b9, 6, none⟩ = some (.slice (some ⟨k13, 0, none⟩) 1 1) := hbx.cell 6
        unfold Oper.wp
        go_simp
        exact hK _ _ ⟨_, rfl, HX.out.grow hC.bel⟩ hC (fun j u _ h => Mn.keep (Below.refl _ _) h)
      · obtain ⟨vg, hgd, mg⟩ := (hD ⟨1, .guard⟩ (by simp) rfl).2.at_ (d := 18) rfl
        have hgm : vg = .bool true := mg
        subst hgm
        refine ⟨wanted_some rfl rfl hgd, fun K hK => ?_⟩
        obtain ⟨v20, h20, m20⟩ := (hD ⟨3, .data⟩ (by simp) rfl).2.at_ (d := 20) rfl
        obtain ⟨cs0, rfl, hx0⟩ := m20
        obtain ⟨p0k, p0a, p0b, p0c, p0d, p0t, p0A, p0n, p0p, hc0⟩ := Ex.parts _ hx0
        subst hc0
        unfold Oper.wp
        go_simp
        have hbb : Below W.heap.size W (W.alloc (.cells #[.int .i64 p0k, .int .u64 p0a, .int .u64 p0b, .int .u64 p0c, .int .u64 p0d, .string p0t, .slice p0A p0n p0p] 34)) := (Below.refl _ _).alloc (Nat.le_refl _) _
        exact hK _ _ ⟨W.heap.size, rfl, fun k => ex_one (hx0.grow hbb) (blk_at rfl) rfl k⟩ (hC.below hbb) (fun j u _ h => Mn.keep hbb h)
      · obtain ⟨vg, hgd, mg⟩ := (hD ⟨1, .guard⟩ (by simp) rfl).2.at_ (d := 18) rfl
        have hgm : vg = .bool true := mg
        subst hgm
        refine ⟨wanted_some rfl rfl hgd, fun K hK => ?_⟩
        obtain ⟨v21, h21, m21⟩ := (hD ⟨4, .data⟩ (by simp) rfl).2.at_ (d := 21) rfl
        obtain ⟨bb, rfl, hkk⟩ := m21
        unfold Oper.wp
        go_simp
        refine (of_b _ _ _ _ W).mono ?_
        rintro e w' ⟨rfl, hb⟩
        exact hK _ _ ⟨_, rfl, (hkk 11).grow hb⟩ (hC.below hb) (fun j u _ h => Mn.keep hb h)
      · obtain ⟨vg, hgd, mg⟩ := (hD ⟨1, .guard⟩ (by simp) rfl).2.at_ (d := 18) rfl
        have hgm : vg = .bool true := mg
        subst hgm
        refine ⟨wanted_some rfl rfl hgd, fun K hK => ?_⟩
        obtain ⟨v22, h22, m22⟩ := (hD ⟨5, .data⟩ (by simp) rfl).2.at_ (d := 22) rfl
        obtain ⟨cs0, rfl, hx0⟩ := m22
        obtain ⟨p0k, p0a, p0b, p0c, p0d, p0t, p0A, p0n, p0p, hc0⟩ := Ex.parts _ hx0
        subst hc0
        unfold Oper.wp
        go_simp
        have hbb : Below W.heap.size W (W.alloc (.cells #[.int .i64 p0k, .int .u64 p0a, .int .u64 p0b, .int .u64 p0c, .int .u64 p0d, .string p0t, .slice p0A p0n p0p] 34)) := (Below.refl _ _).alloc (Nat.le_refl _) _
        exact hK _ _ ⟨W.heap.size, rfl, fun k => ex_one (hx0.grow hbb) (blk_at rfl) rfl k⟩ (hC.below hbb) (fun j u _ h => Mn.keep hbb h)
      · obtain ⟨vg, hgd, mg⟩ := (hD ⟨1, .guard⟩ (by simp) rfl).2.at_ (d := 18) rfl
        have hgm : vg = .bool true := mg
        subst hgm
        refine ⟨wanted_some rfl rfl hgd, fun K hK => ?_⟩
        obtain ⟨v23, h23, m23⟩ := (hD ⟨6, .data⟩ (by simp) rfl).2.at_ (d := 23) rfl
        obtain ⟨bb, rfl, hkk⟩ := m23
        unfold Oper.wp
        go_simp
        refine (of_b _ _ _ _ W).mono ?_
        rintro e w' ⟨rfl, hb⟩
        exact hK _ _ ⟨_, rfl, (hkk 11).grow hb⟩ (hC.below hb) (fun j u _ h => Mn.keep hb h)
      · obtain ⟨vg, hgd, mg⟩ := (hD ⟨1, .guard⟩ (by simp) rfl).2.at_ (d := 18) rfl
        have hgm : vg = .bool true := mg
        subst hgm
        refine ⟨wanted_some rfl rfl hgd, fun K hK => ?_⟩
        have h9 : act.tmps[9]? = some (.pointer (some ⟨b9, 0, none⟩)) := (hS.at_ 9 (by kernel_rfl)).trans rfl
        have hbx := hC.ex 2 _ rfl
        have x0 : W.cell? ⟨b9, 0, none⟩ = some (.int .i64 11) := hbx.cell 0; have x1 : W.cell? ⟨b9, 1, none⟩ = some (.int .u64 0) := hbx.cell 1; have x2 : W.cell? ⟨b9, 2, none⟩ = some (.int .u64 0) := hbx.cell 2; have x3 : W.cell? ⟨b9, 3, none⟩ = some (.int .u64 0) := hbx.cell 3; have x4 : W.cell? ⟨b9, 4, none⟩ = some (.int .u64 0) := hbx.cell 4; have x5 : W.cell? ⟨b9, 5, none⟩ = some (.string ⟨#[]⟩) := hbx.cell 5; have x6 : W.cell? ⟨b9, 6, none⟩ = some (.slice (some ⟨k13, 0, none⟩) 1 1) := hbx.cell 6
        unfold Oper.wp
        go_simp
        exact hK _ _ ⟨_, rfl, HX.out.grow hC.bel⟩ hC (fun j u _ h => Mn.keep (Below.refl _ _) h)
      · obtain ⟨vg, hgd, mg⟩ := (hD ⟨1, .guard⟩ (by simp) rfl).2.at_ (d := 18) rfl
        have hgm : vg = .bool true := mg
        subst hgm
        refine ⟨wanted_some rfl rfl hgd, fun K hK => ?_⟩
        have h3 : act.tmps[3]? = some (.string s) := (hS.at_ 3 (by kernel_rfl)).trans rfl
        unfold Oper.wp
        go_simp
        exact hK _ _ rfl hC (fun j u _ h => Mn.keep (Below.refl _ _) h)
      · obtain ⟨vg, hgd, mg⟩ := (hD ⟨1, .guard⟩ (by simp) rfl).2.at_ (d := 18) rfl
        have hgm : vg = .bool true := mg
        subst hgm
        refine ⟨wanted_some rfl rfl hgd, fun K hK => ?_⟩
        obtain ⟨v19, h19, m19⟩ := (hD ⟨2, .data⟩ (by simp) rfl).2.at_ (d := 19) rfl
        obtain ⟨v24, h24, m24⟩ := (hD ⟨7, .data⟩ (by simp) rfl).2.at_ (d := 24) rfl
        obtain ⟨v25, h25, m25⟩ := (hD ⟨8, .data⟩ (by simp) rfl).2.at_ (d := 25) rfl
        obtain ⟨v26, h26, m26⟩ := (hD ⟨9, .data⟩ (by simp) rfl).2.at_ (d := 26) rfl
        have hm0 : v19 = .agg #[.slice A g.length cp] := m19
        have hm3 : v26 = .string s := m26
        subst hm0 hm3
        obtain ⟨csa, rfl, hxa⟩ := m24
        obtain ⟨csb, rfl, hxb⟩ := m25
        unfold Oper.wp
        go_simp
        refine (alike_any s (HG.out.grow hC.bel) hxa hxb hg HWF.out (wf_1 (by unfold I64; omega) (wf_1 (by unfold I64; omega) (wf_1 (by unfold I64; omega) hwa))) (wf_1 (by unfold I64; omega) hwa) (fun _ => same_nn)).mono ?_
        rintro e w' ⟨rfl, hb⟩
        exact hK _ _ rfl (hC.below hb) (fun j u _ h => Mn.keep hb h)
      · refine ⟨rfl, fun K hK => ?_⟩
        obtain ⟨v18, h18, m18⟩ := (hD ⟨1, .data⟩ (by simp) rfl).2.at_ (d := 18) rfl
        obtain ⟨v27, h27, m27⟩ := (hD ⟨10, .data⟩ (by simp) rfl).2.at_ (d := 27) rfl
        have hm1 : v18 = .bool true := m18
        have hm2 : v27 = .bool true := m27
        subst hm1 hm2
        unfold Oper.wp
        go_simp
        exact hK _ _ rfl hC (fun j u _ h => Mn.keep (Below.refl _ _) h)
      · refine ⟨rfl, fun K hK => ?_⟩
        obtain ⟨v28, h28, m28⟩ := (hD ⟨11, .data⟩ (by simp) rfl).2.at_ (d := 28) rfl
        have hm : v28 = .bool true := m28
        subst hm
        unfold Oper.wp
        go_simp
        exact hK _ _ rfl hC (fun j u _ h => Mn.keep (Below.refl _ _) h)
      · obtain ⟨vg, hgd, mg⟩ := (hD ⟨12, .guard⟩ (by simp) rfl).2.at_ (d := 29) rfl
        have hgm : vg = .bool true := mg
        subst hgm
        refine ⟨wanted_some rfl rfl hgd, fun K hK => ?_⟩
        have h4 : act.tmps[4]? = some (.pointer (some ⟨w.heap.size, 0, none⟩)) := (hS.at_ 4 (by kernel_rfl)).trans rfl
        have g0 : W.cell? ⟨w.heap.size, 0, none⟩ = some (.slice A g.length cp) := hC.g.cell 0
        unfold Oper.wp
        go_simp
        exact hK _ _ rfl hC (fun j u _ h => Mn.keep (Below.refl _ _) h)
      · obtain ⟨vg, hgd, mg⟩ := (hD ⟨12, .guard⟩ (by simp) rfl).2.at_ (d := 29) rfl
        have hgm : vg = .bool true := mg
        subst hgm
        refine ⟨wanted_some rfl rfl hgd, fun K hK => ?_⟩
        have h5 : act.tmps[5]? = some (.pointer (some ⟨w.heap.size + 1, 0, none⟩)) := (hS.at_ 5 (by kernel_rfl)).trans rfl
        have hbx := hC.ex 0 _ rfl
        have x0 : W.cell? ⟨w.heap.size + 1, 0, none⟩ = some (.int .i64 ak) := hbx.cell 0; have x1 : W.cell? ⟨w.heap.size + 1, 1, none⟩ = some (.int .u64 a1) := hbx.cell 1; have x2 : W.cell? ⟨w.heap.size + 1, 2, none⟩ = some (.int .u64 a2) := hbx.cell 2; have x3 : W.cell? ⟨w.heap.size + 1, 3, none⟩ = some (.int .u64 a3) := hbx.cell 3; have x4 : W.cell? ⟨w.heap.size + 1, 4, none⟩ = some (.int .u64 a4) := hbx.cell 4; have x5 : W.cell? ⟨w.heap.size + 1, 5, none⟩ = some (.string ats) := hbx.cell 5; have x6 : W.cell? ⟨w.heap.size + 1, 6, none⟩ = some (.slice aA an ap) := hbx.cell 6
        unfold Oper.wp
        go_simp
        exact hK _ _ ⟨_, rfl, HA.out.grow hC.bel⟩ hC (fun j u _ h => Mn.keep (Below.refl _ _) h)
      · obtain ⟨vg, hgd, mg⟩ := (hD ⟨12, .guard⟩ (by simp) rfl).2.at_ (d := 29) rfl
        have hgm : vg = .bool true := mg
        subst hgm
        refine ⟨wanted_some rfl rfl hgd, fun K hK => ?_⟩
        obtain ⟨v31, h31, m31⟩ := (hD ⟨14, .data⟩ (by simp) rfl).2.at_ (d := 31) rfl
        obtain ⟨cs0, rfl, hx0⟩ := m31
        obtain ⟨p0k, p0a, p0b, p0c, p0d, p0t, p0A, p0n, p0p, hc0⟩ := Ex.parts _ hx0
        subst hc0
        unfold Oper.wp
        go_simp
        have hbb : Below W.heap.size W (W.alloc (.cells #[.int .i64 p0k, .int .u64 p0a, .int .u64 p0b, .int .u64 p0c, .int .u64 p0d, .string p0t, .slice p0A p0n p0p] 34)) := (Below.refl _ _).alloc (Nat.le_refl _) _
        exact hK _ _ ⟨W.heap.size, rfl, fun k => ex_one (hx0.grow hbb) (blk_at rfl) rfl k⟩ (hC.below hbb) (fun j u _ h => Mn.keep hbb h)
      · obtain ⟨vg, hgd, mg⟩ := (hD ⟨12, .guard⟩ (by simp) rfl).2.at_ (d := 29) rfl
        have hgm : vg = .bool true := mg
        subst hgm
        refine ⟨wanted_some rfl rfl hgd, fun K hK => ?_⟩
        obtain ⟨v32, h32, m32⟩ := (hD ⟨15, .data⟩ (by simp) rfl).2.at_ (d := 32) rfl
        obtain ⟨bb, rfl, hkk⟩ := m32
        unfold Oper.wp
        go_simp
        refine (of_b _ _ _ _ W).mono ?_
        rintro e w' ⟨rfl, hb⟩
        exact hK _ _ ⟨_, rfl, (hkk 10).grow hb⟩ (hC.below hb) (fun j u _ h => Mn.keep hb h)
      · obtain ⟨vg, hgd, mg⟩ := (hD ⟨12, .guard⟩ (by simp) rfl).2.at_ (d := 29) rfl
        have hgm : vg = .bool true := mg
        subst hgm
        refine ⟨wanted_some rfl rfl hgd, fun K hK => ?_⟩
        have h9 : act.tmps[9]? = some (.pointer (some ⟨b9, 0, none⟩)) := (hS.at_ 9 (by kernel_rfl)).trans rfl
        have hbx := hC.ex 2 _ rfl
        have x0 : W.cell? ⟨b9, 0, none⟩ = some (.int .i64 11) := hbx.cell 0; have x1 : W.cell? ⟨b9, 1, none⟩ = some (.int .u64 0) := hbx.cell 1; have x2 : W.cell? ⟨b9, 2, none⟩ = some (.int .u64 0) := hbx.cell 2; have x3 : W.cell? ⟨b9, 3, none⟩ = some (.int .u64 0) := hbx.cell 3; have x4 : W.cell? ⟨b9, 4, none⟩ = some (.int .u64 0) := hbx.cell 4; have x5 : W.cell? ⟨b9, 5, none⟩ = some (.string ⟨#[]⟩) := hbx.cell 5; have x6 : W.cell? ⟨b9, 6, none⟩ = some (.slice (some ⟨k13, 0, none⟩) 1 1) := hbx.cell 6
        unfold Oper.wp
        go_simp
        exact hK _ _ ⟨_, rfl, HX.out.grow hC.bel⟩ hC (fun j u _ h => Mn.keep (Below.refl _ _) h)
      · obtain ⟨vg, hgd, mg⟩ := (hD ⟨12, .guard⟩ (by simp) rfl).2.at_ (d := 29) rfl
        have hgm : vg = .bool true := mg
        subst hgm
        refine ⟨wanted_some rfl rfl hgd, fun K hK => ?_⟩
        obtain ⟨v34, h34, m34⟩ := (hD ⟨17, .data⟩ (by simp) rfl).2.at_ (d := 34) rfl
        obtain ⟨cs0, rfl, hx0⟩ := m34
        obtain ⟨p0k, p0a, p0b, p0c, p0d, p0t, p0A, p0n, p0p, hc0⟩ := Ex.parts _ hx0
        subst hc0
        unfold Oper.wp
        go_simp
        have hbb : Below W.heap.size W (W.alloc (.cells #[.int .i64 p0k, .int .u64 p0a, .int .u64 p0b, .int .u64 p0c, .int .u64 p0d, .string p0t, .slice p0A p0n p0p] 34)) := (Below.refl _ _).alloc (Nat.le_refl _) _
        exact hK _ _ ⟨W.heap.size, rfl, fun k => ex_one (hx0.grow hbb) (blk_at rfl) rfl k⟩ (hC.below hbb) (fun j u _ h => Mn.keep hbb h)
      · obtain ⟨vg, hgd, mg⟩ := (hD ⟨12, .guard⟩ (by simp) rfl).2.at_ (d := 29) rfl
        have hgm : vg = .bool true := mg
        subst hgm
        refine ⟨wanted_some rfl rfl hgd, fun K hK => ?_⟩
        obtain ⟨v35, h35, m35⟩ := (hD ⟨18, .data⟩ (by simp) rfl).2.at_ (d := 35) rfl
        obtain ⟨bb, rfl, hkk⟩ := m35
        unfold Oper.wp
        go_simp
        refine (of_b _ _ _ _ W).mono ?_
        rintro e w' ⟨rfl, hb⟩
        exact hK _ _ ⟨_, rfl, (hkk 11).grow hb⟩ (hC.below hb) (fun j u _ h => Mn.keep hb h)
      · obtain ⟨vg, hgd, mg⟩ := (hD ⟨12, .guard⟩ (by simp) rfl).2.at_ (d := 29) rfl
        have hgm : vg = .bool true := mg
        subst hgm
        refine ⟨wanted_some rfl rfl hgd, fun K hK => ?_⟩
        have h3 : act.tmps[3]? = some (.string s) := (hS.at_ 3 (by kernel_rfl)).trans rfl
        unfold Oper.wp
        go_simp
        exact hK _ _ rfl hC (fun j u _ h => Mn.keep (Below.refl _ _) h)
      · obtain ⟨vg, hgd, mg⟩ := (hD ⟨12, .guard⟩ (by simp) rfl).2.at_ (d := 29) rfl
        have hgm : vg = .bool true := mg
        subst hgm
        refine ⟨wanted_some rfl rfl hgd, fun K hK => ?_⟩
        obtain ⟨v30, h30, m30⟩ := (hD ⟨13, .data⟩ (by simp) rfl).2.at_ (d := 30) rfl
        obtain ⟨v33, h33, m33⟩ := (hD ⟨16, .data⟩ (by simp) rfl).2.at_ (d := 33) rfl
        obtain ⟨v36, h36, m36⟩ := (hD ⟨19, .data⟩ (by simp) rfl).2.at_ (d := 36) rfl
        obtain ⟨v37, h37, m37⟩ := (hD ⟨20, .data⟩ (by simp) rfl).2.at_ (d := 37) rfl
        have hm0 : v30 = .agg #[.slice A g.length cp] := m30
        have hm3 : v37 = .string s := m37
        subst hm0 hm3
        obtain ⟨csa, rfl, hxa⟩ := m33
        obtain ⟨csb, rfl, hxb⟩ := m36
        unfold Oper.wp
        go_simp
        refine (alike_any s (HG.out.grow hC.bel) hxa hxb hg HWF.out (wf_1 (by unfold I64; omega) hwa) (wf_1 (by unfold I64; omega) (wf_1 (by unfold I64; omega) hwa)) (fun _ => same_an)).mono ?_
        rintro e w' ⟨rfl, hb⟩
        exact hK _ _ rfl (hC.below hb) (fun j u _ h => Mn.keep hb h)
      · refine ⟨rfl, fun K hK => ?_⟩
        obtain ⟨v29, h29, m29⟩ := (hD ⟨12, .data⟩ (by simp) rfl).2.at_ (d := 29) rfl
        obtain ⟨v38, h38, m38⟩ := (hD ⟨21, .data⟩ (by simp) rfl).2.at_ (d := 38) rfl
        have hm1 : v29 = .bool true := m29
        have hm2 : v38 = .bool true := m38
        subst hm1 hm2
        unfold Oper.wp
        go_simp
        exact hK _ _ rfl hC (fun j u _ h => Mn.keep (Below.refl _ _) h)
      · refine ⟨rfl, fun K hK => ?_⟩
        obtain ⟨v39, h39, m39⟩ := (hD ⟨22, .data⟩ (by simp) rfl).2.at_ (d := 39) rfl
        have hm : v39 = .bool true := m39
        subst hm
        unfold Oper.wp
        go_simp
        exact hK _ _ rfl hC (fun j u _ h => Mn.keep (Below.refl _ _) h)
      · obtain ⟨vg, hgd, mg⟩ := (hD ⟨23, .guard⟩ (by simp) rfl).2.at_ (d := 40) rfl
        have hgm : vg = .bool true := mg
        subst hgm
        refine ⟨wanted_some rfl rfl hgd, fun K hK => ?_⟩
        have h4 : act.tmps[4]? = some (.pointer (some ⟨w.heap.size, 0, none⟩)) := (hS.at_ 4 (by kernel_rfl)).trans rfl
        have g0 : W.cell? ⟨w.heap.size, 0, none⟩ = some (.slice A g.length cp) := hC.g.cell 0
        unfold Oper.wp
        go_simp
        exact hK _ _ rfl hC (fun j u _ h => Mn.keep (Below.refl _ _) h)
      · obtain ⟨vg, hgd, mg⟩ := (hD ⟨23, .guard⟩ (by simp) rfl).2.at_ (d := 40) rfl
        have hgm : vg = .bool true := mg
        subst hgm
        refine ⟨wanted_some rfl rfl hgd, fun K hK => ?_⟩
        have h9 : act.tmps[9]? = some (.pointer (some ⟨b9, 0, none⟩)) := (hS.at_ 9 (by kernel_rfl)).trans rfl
        have hbx := hC.ex 2 _ rfl
        have x0 : W.cell? ⟨b9, 0, none⟩ = some (.int .i64 11) := hbx.cell 0; have x1 : W.cell? ⟨b9, 1, none⟩ = some (.int .u64 0) := hbx.cell 1; have x2 : W.cell? ⟨b9, 2, none⟩ = some (.int .u64 0) := hbx.cell 2; have x3 : W.cell? ⟨b9, 3, none⟩ = some (.int .u64 0) := hbx.cell 3; have x4 : W.cell? ⟨b9, 4, none⟩ = some (.int .u64 0) := hbx.cell 4; have x5 : W.cell? ⟨b9, 5, none⟩ = some (.string ⟨#[]⟩) := hbx.cell 5; have x6 : W.cell? ⟨b9, 6, none⟩ = some (.slice (some ⟨k13, 0, none⟩) 1 1) := hbx.cell 6
        unfold Oper.wp
        go_simp
        exact hK _ _ ⟨_, rfl, HX.out.grow hC.bel⟩ hC (fun j u _ h => Mn.keep (Below.refl _ _) h)
      · obtain ⟨vg, hgd, mg⟩ := (hD ⟨23, .guard⟩ (by simp) rfl).2.at_ (d := 40) rfl
        have hgm : vg = .bool true := mg
        subst hgm
        refine ⟨wanted_some rfl rfl hgd, fun K hK => ?_⟩
        have h10 : act.tmps[10]? = some (.pointer (some ⟨b10, 0, none⟩)) := (hS.at_ 10 (by kernel_rfl)).trans rfl
        have hbx := hC.ex 3 _ rfl
        have x0 : W.cell? ⟨b10, 0, none⟩ = some (.int .i64 10) := hbx.cell 0; have x1 : W.cell? ⟨b10, 1, none⟩ = some (.int .u64 0) := hbx.cell 1; have x2 : W.cell? ⟨b10, 2, none⟩ = some (.int .u64 0) := hbx.cell 2; have x3 : W.cell? ⟨b10, 3, none⟩ = some (.int .u64 0) := hbx.cell 3; have x4 : W.cell? ⟨b10, 4, none⟩ = some (.int .u64 0) := hbx.cell 4; have x5 : W.cell? ⟨b10, 5, none⟩ = some (.string ⟨#[]⟩) := hbx.cell 5; have x6 : W.cell? ⟨b10, 6, none⟩ = some (.slice (some ⟨k16, 0, none⟩) 1 1) := hbx.cell 6
        unfold Oper.wp
        go_simp
        exact hK _ _ ⟨_, rfl, HY.out.grow hC.bel⟩ hC (fun j u _ h => Mn.keep (Below.refl _ _) h)
      · obtain ⟨vg, hgd, mg⟩ := (hD ⟨23, .guard⟩ (by simp) rfl).2.at_ (d := 40) rfl
        have hgm : vg = .bool true := mg
        subst hgm
        refine ⟨wanted_some rfl rfl hgd, fun K hK => ?_⟩
        obtain ⟨v42, h42, m42⟩ := (hD ⟨25, .data⟩ (by simp) rfl).2.at_ (d := 42) rfl
        obtain ⟨v43, h43, m43⟩ := (hD ⟨26, .data⟩ (by simp) rfl).2.at_ (d := 43) rfl
        obtain ⟨cs0, rfl, hx0⟩ := m42
        obtain ⟨p0k, p0a, p0b, p0c, p0d, p0t, p0A, p0n, p0p, hc0⟩ := Ex.parts _ hx0
        subst hc0
        obtain ⟨cs1, rfl, hx1⟩ := m43
        obtain ⟨p1k, p1a, p1b, p1c, p1d, p1t, p1A, p1n, p1p, hc1⟩ := Ex.parts _ hx1
        subst hc1
        unfold Oper.wp
        go_simp
        have hbb : Below W.heap.size W (W.alloc (.cells #[.int .i64 p0k, .int .u64 p0a, .int .u64 p0b, .int .u64 p0c, .int .u64 p0d, .string p0t, .slice p0A p0n p0p, .int .i64 p1k, .int .u64 p1a, .int .u64 p1b, .int .u64 p1c, .int .u64 p1d, .string p1t, .slice p1A p1n p1p] 34)) := (Below.refl _ _).alloc (Nat.le_refl _) _
        exact hK _ _ ⟨W.heap.size, rfl, fun k => ex_two (hx0.grow hbb) (hx1.grow hbb) (blk_at rfl) rfl k⟩ (hC.below hbb) (fun j u _ h => Mn.keep hbb h)
      · obtain ⟨vg, hgd, mg⟩ := (hD ⟨23, .guard⟩ (by simp) rfl).2.at_ (d := 40) rfl
        have hgm : vg = .bool true := mg
        subst hgm
        refine ⟨wanted_some rfl rfl hgd, fun K hK => ?_⟩
        obtain ⟨v44, h44, m44⟩ := (hD ⟨27, .data⟩ (by simp) rfl).2.at_ (d := 44) rfl
        obtain ⟨bb, rfl, hkk⟩ := m44
        unfold Oper.wp
        go_simp
        refine (of_b _ _ _ _ W).mono ?_
        rintro e w' ⟨rfl, hb⟩
        exact hK _ _ ⟨_, rfl, (hkk 5).grow hb⟩ (hC.below hb) (fun j u _ h => Mn.keep hb h)
      · obtain ⟨vg, hgd, mg⟩ := (hD ⟨23, .guard⟩ (by simp) rfl).2.at_ (d := 40) rfl
        have hgm : vg = .bool true := mg
        subst hgm
        refine ⟨wanted_some rfl rfl hgd, fun K hK => ?_⟩
        have h10 : act.tmps[10]? = some (.pointer (some ⟨b10, 0, none⟩)) := (hS.at_ 10 (by kernel_rfl)).trans rfl
        have hbx := hC.ex 3 _ rfl
        have x0 : W.cell? ⟨b10, 0, none⟩ = some (.int .i64 10) := hbx.cell 0; have x1 : W.cell? ⟨b10, 1, none⟩ = some (.int .u64 0) := hbx.cell 1; have x2 : W.cell? ⟨b10, 2, none⟩ = some (.int .u64 0) := hbx.cell 2; have x3 : W.cell? ⟨b10, 3, none⟩ = some (.int .u64 0) := hbx.cell 3; have x4 : W.cell? ⟨b10, 4, none⟩ = some (.int .u64 0) := hbx.cell 4; have x5 : W.cell? ⟨b10, 5, none⟩ = some (.string ⟨#[]⟩) := hbx.cell 5; have x6 : W.cell? ⟨b10, 6, none⟩ = some (.slice (some ⟨k16, 0, none⟩) 1 1) := hbx.cell 6
        unfold Oper.wp
        go_simp
        exact hK _ _ ⟨_, rfl, HY.out.grow hC.bel⟩ hC (fun j u _ h => Mn.keep (Below.refl _ _) h)
      · obtain ⟨vg, hgd, mg⟩ := (hD ⟨23, .guard⟩ (by simp) rfl).2.at_ (d := 40) rfl
        have hgm : vg = .bool true := mg
        subst hgm
        refine ⟨wanted_some rfl rfl hgd, fun K hK => ?_⟩
        have h9 : act.tmps[9]? = some (.pointer (some ⟨b9, 0, none⟩)) := (hS.at_ 9 (by kernel_rfl)).trans rfl
        have hbx := hC.ex 2 _ rfl
        have x0 : W.cell? ⟨b9, 0, none⟩ = some (.int .i64 11) := hbx.cell 0; have x1 : W.cell? ⟨b9, 1, none⟩ = some (.int .u64 0) := hbx.cell 1; have x2 : W.cell? ⟨b9, 2, none⟩ = some (.int .u64 0) := hbx.cell 2; have x3 : W.cell? ⟨b9, 3, none⟩ = some (.int .u64 0) := hbx.cell 3; have x4 : W.cell? ⟨b9, 4, none⟩ = some (.int .u64 0) := hbx.cell 4; have x5 : W.cell? ⟨b9, 5, none⟩ = some (.string ⟨#[]⟩) := hbx.cell 5; have x6 : W.cell? ⟨b9, 6, none⟩ = some (.slice (some ⟨k13, 0, none⟩) 1 1) := hbx.cell 6
        unfold Oper.wp
        go_simp
        exact hK _ _ ⟨_, rfl, HX.out.grow hC.bel⟩ hC (fun j u _ h => Mn.keep (Below.refl _ _) h)
      · obtain ⟨vg, hgd, mg⟩ := (hD ⟨23, .guard⟩ (by simp) rfl).2.at_ (d := 40) rfl
        have hgm : vg = .bool true := mg
        subst hgm
        refine ⟨wanted_some rfl rfl hgd, fun K hK => ?_⟩
        obtain ⟨v46, h46, m46⟩ := (hD ⟨29, .data⟩ (by simp) rfl).2.at_ (d := 46) rfl
        obtain ⟨v47, h47, m47⟩ := (hD ⟨30, .data⟩ (by simp) rfl).2.at_ (d := 47) rfl
        obtain ⟨cs0, rfl, hx0⟩ := m46
        obtain ⟨p0k, p0a, p0b, p0c, p0d, p0t, p0A, p0n, p0p, hc0⟩ := Ex.parts _ hx0
        subst hc0
        obtain ⟨cs1, rfl, hx1⟩ := m47
        obtain ⟨p1k, p1a, p1b, p1c, p1d, p1t, p1A, p1n, p1p, hc1⟩ := Ex.parts _ hx1
        subst hc1
        unfold Oper.wp
        go_simp
        have hbb : Below W.heap.size W (W.alloc (.cells #[.int .i64 p0k, .int .u64 p0a, .int .u64 p0b, .int .u64 p0c, .int .u64 p0d, .string p0t, .slice p0A p0n p0p, .int .i64 p1k, .int .u64 p1a, .int .u64 p1b, .int .u64 p1c, .int .u64 p1d, .string p1t, .slice p1A p1n p1p] 34)) := (Below.refl _ _).alloc (Nat.le_refl _) _
        exact hK _ _ ⟨W.heap.size, rfl, fun k => ex_two (hx0.grow hbb) (hx1.grow hbb) (blk_at rfl) rfl k⟩ (hC.below hbb) (fun j u _ h => Mn.keep hbb h)
      · obtain ⟨vg, hgd, mg⟩ := (hD ⟨23, .guard⟩ (by simp) rfl).2.at_ (d := 40) rfl
        have hgm : vg = .bool true := mg
        subst hgm
        refine ⟨wanted_some rfl rfl hgd, fun K hK => ?_⟩
        obtain ⟨v48, h48, m48⟩ := (hD ⟨31, .data⟩ (by simp) rfl).2.at_ (d := 48) rfl
        obtain ⟨bb, rfl, hkk⟩ := m48
        unfold Oper.wp
        go_simp
        refine (of_b _ _ _ _ W).mono ?_
        rintro e w' ⟨rfl, hb⟩
        exact hK _ _ ⟨_, rfl, (hkk 5).grow hb⟩ (hC.below hb) (fun j u _ h => Mn.keep hb h)
      · obtain ⟨vg, hgd, mg⟩ := (hD ⟨23, .guard⟩ (by simp) rfl).2.at_ (d := 40) rfl
        have hgm : vg = .bool true := mg
        subst hgm
        refine ⟨wanted_some rfl rfl hgd, fun K hK => ?_⟩
        have h3 : act.tmps[3]? = some (.string s) := (hS.at_ 3 (by kernel_rfl)).trans rfl
        unfold Oper.wp
        go_simp
        exact hK _ _ rfl hC (fun j u _ h => Mn.keep (Below.refl _ _) h)
      · obtain ⟨vg, hgd, mg⟩ := (hD ⟨23, .guard⟩ (by simp) rfl).2.at_ (d := 40) rfl
        have hgm : vg = .bool true := mg
        subst hgm
        refine ⟨wanted_some rfl rfl hgd, fun K hK => ?_⟩
        obtain ⟨v41, h41, m41⟩ := (hD ⟨24, .data⟩ (by simp) rfl).2.at_ (d := 41) rfl
        obtain ⟨v45, h45, m45⟩ := (hD ⟨28, .data⟩ (by simp) rfl).2.at_ (d := 45) rfl
        obtain ⟨v49, h49, m49⟩ := (hD ⟨32, .data⟩ (by simp) rfl).2.at_ (d := 49) rfl
        obtain ⟨v50, h50, m50⟩ := (hD ⟨33, .data⟩ (by simp) rfl).2.at_ (d := 50) rfl
        have hm0 : v41 = .agg #[.slice A g.length cp] := m41
        have hm3 : v50 = .string s := m50
        subst hm0 hm3
        obtain ⟨csa, rfl, hxa⟩ := m45
        obtain ⟨csb, rfl, hxb⟩ := m49
        unfold Oper.wp
        go_simp
        refine (alike_any s (HG.out.grow hC.bel) hxa hxb hg HWF.out (wf_2 (by unfold I64; omega) (wf_1 (by unfold I64; omega) hwa) (wf_1 (by unfold I64; omega) hwb)) (wf_2 (by unfold I64; omega) (wf_1 (by unfold I64; omega) hwb) (wf_1 (by unfold I64; omega) hwa)) (fun _ => same_sw)).mono ?_
        rintro e w' ⟨rfl, hb⟩
        exact hK _ _ rfl (hC.below hb) (fun j u _ h => Mn.keep hb h)
      · refine ⟨rfl, fun K hK => ?_⟩
        obtain ⟨v40, h40, m40⟩ := (hD ⟨23, .data⟩ (by simp) rfl).2.at_ (d := 40) rfl
        obtain ⟨v51, h51, m51⟩ := (hD ⟨34, .data⟩ (by simp) rfl).2.at_ (d := 51) rfl
        have hm1 : v40 = .bool true := m40
        have hm2 : v51 = .bool true := m51
        subst hm1 hm2
        unfold Oper.wp
        go_simp
        exact hK _ _ rfl hC (fun j u _ h => Mn.keep (Below.refl _ _) h)
      · refine ⟨rfl, fun K hK => ?_⟩
        obtain ⟨v52, h52, m52⟩ := (hD ⟨35, .data⟩ (by simp) rfl).2.at_ (d := 52) rfl
        have hm : v52 = .bool true := m52
        subst hm
        unfold Oper.wp
        go_simp
        exact hK _ _ rfl hC (fun j u _ h => Mn.keep (Below.refl _ _) h)
      · obtain ⟨vg, hgd, mg⟩ := (hD ⟨36, .guard⟩ (by simp) rfl).2.at_ (d := 53) rfl
        have hgm : vg = .bool true := mg
        subst hgm
        refine ⟨wanted_some rfl rfl hgd, fun K hK => ?_⟩
        have h4 : act.tmps[4]? = some (.pointer (some ⟨w.heap.size, 0, none⟩)) := (hS.at_ 4 (by kernel_rfl)).trans rfl
        have g0 : W.cell? ⟨w.heap.size, 0, none⟩ = some (.slice A g.length cp) := hC.g.cell 0
        unfold Oper.wp
        go_simp
        exact hK _ _ rfl hC (fun j u _ h => Mn.keep (Below.refl _ _) h)
      · obtain ⟨vg, hgd, mg⟩ := (hD ⟨36, .guard⟩ (by simp) rfl).2.at_ (d := 53) rfl
        have hgm : vg = .bool true := mg
        subst hgm
        refine ⟨wanted_some rfl rfl hgd, fun K hK => ?_⟩
        have h5 : act.tmps[5]? = some (.pointer (some ⟨w.heap.size + 1, 0, none⟩)) := (hS.at_ 5 (by kernel_rfl)).trans rfl
        have hbx := hC.ex 0 _ rfl
        have x0 : W.cell? ⟨w.heap.size + 1, 0, none⟩ = some (.int .i64 ak) := hbx.cell 0; have x1 : W.cell? ⟨w.heap.size + 1, 1, none⟩ = some (.int .u64 a1) := hbx.cell 1; have x2 : W.cell? ⟨w.heap.size + 1, 2, none⟩ = some (.int .u64 a2) := hbx.cell 2; have x3 : W.cell? ⟨w.heap.size + 1, 3, none⟩ = some (.int .u64 a3) := hbx.cell 3; have x4 : W.cell? ⟨w.heap.size + 1, 4, none⟩ = some (.int .u64 a4) := hbx.cell 4; have x5 : W.cell? ⟨w.heap.size + 1, 5, none⟩ = some (.string ats) := hbx.cell 5; have x6 : W.cell? ⟨w.heap.size + 1, 6, none⟩ = some (.slice aA an ap) := hbx.cell 6
        unfold Oper.wp
        go_simp
        exact hK _ _ ⟨_, rfl, HA.out.grow hC.bel⟩ hC (fun j u _ h => Mn.keep (Below.refl _ _) h)
      · obtain ⟨vg, hgd, mg⟩ := (hD ⟨36, .guard⟩ (by simp) rfl).2.at_ (d := 53) rfl
        have hgm : vg = .bool true := mg
        subst hgm
        refine ⟨wanted_some rfl rfl hgd, fun K hK => ?_⟩
        obtain ⟨v55, h55, m55⟩ := (hD ⟨38, .data⟩ (by simp) rfl).2.at_ (d := 55) rfl
        obtain ⟨cs0, rfl, hx0⟩ := m55
        obtain ⟨p0k, p0a, p0b, p0c, p0d, p0t, p0A, p0n, p0p, hc0⟩ := Ex.parts _ hx0
        subst hc0
        unfold Oper.wp
        go_simp
        have hbb : Below W.heap.size W (W.alloc (.cells #[.int .i64 p0k, .int .u64 p0a, .int .u64 p0b, .int .u64 p0c, .int .u64 p0d, .string p0t, .slice p0A p0n p0p] 34)) := (Below.refl _ _).alloc (Nat.le_refl _) _
        exact hK _ _ ⟨W.heap.size, rfl, fun k => ex_one (hx0.grow hbb) (blk_at rfl) rfl k⟩ (hC.below hbb) (fun j u _ h => Mn.keep hbb h)
      · obtain ⟨vg, hgd, mg⟩ := (hD ⟨36, .guard⟩ (by simp) rfl).2.at_ (d := 53) rfl
        have hgm : vg = .bool true := mg
        subst hgm
        refine ⟨wanted_some rfl rfl hgd, fun K hK => ?_⟩
        obtain ⟨v56, h56, m56⟩ := (hD ⟨39, .data⟩ (by simp) rfl).2.at_ (d := 56) rfl
        obtain ⟨bb, rfl, hkk⟩ := m56
        unfold Oper.wp
        go_simp
        refine (of_b _ _ _ _ W).mono ?_
        rintro e w' ⟨rfl, hb⟩
        exact hK _ _ ⟨_, rfl, (hkk 10).grow hb⟩ (hC.below hb) (fun j u _ h => Mn.keep hb h)
      · obtain ⟨vg, hgd, mg⟩ := (hD ⟨36, .guard⟩ (by simp) rfl).2.at_ (d := 53) rfl
        have hgm : vg = .bool true := mg
        subst hgm
        refine ⟨wanted_some rfl rfl hgd, fun K hK => ?_⟩
        have h9 : act.tmps[9]? = some (.pointer (some ⟨b9, 0, none⟩)) := (hS.at_ 9 (by kernel_rfl)).trans rfl
        have hbx := hC.ex 2 _ rfl
        have x0 : W.cell? ⟨b9, 0, none⟩ = some (.int .i64 11) := hbx.cell 0; have x1 : W.cell? ⟨b9, 1, none⟩ = some (.int .u64 0) := hbx.cell 1; have x2 : W.cell? ⟨b9, 2, none⟩ = some (.int .u64 0) := hbx.cell 2; have x3 : W.cell? ⟨b9, 3, none⟩ = some (.int .u64 0) := hbx.cell 3; have x4 : W.cell? ⟨b9, 4, none⟩ = some (.int .u64 0) := hbx.cell 4; have x5 : W.cell? ⟨b9, 5, none⟩ = some (.string ⟨#[]⟩) := hbx.cell 5; have x6 : W.cell? ⟨b9, 6, none⟩ = some (.slice (some ⟨k13, 0, none⟩) 1 1) := hbx.cell 6
        unfold Oper.wp
        go_simp
        exact hK _ _ ⟨_, rfl, HX.out.grow hC.bel⟩ hC (fun j u _ h => Mn.keep (Below.refl _ _) h)
      · obtain ⟨vg, hgd, mg⟩ := (hD ⟨36, .guard⟩ (by simp) rfl).2.at_ (d := 53) rfl
        have hgm : vg = .bool true := mg
        subst hgm
        refine ⟨wanted_some rfl rfl hgd, fun K hK => ?_⟩
        obtain ⟨v57, h57, m57⟩ := (hD ⟨40, .data⟩ (by simp) rfl).2.at_ (d := 57) rfl
        obtain ⟨v58, h58, m58⟩ := (hD ⟨41, .data⟩ (by simp) rfl).2.at_ (d := 58) rfl
        obtain ⟨cs0, rfl, hx0⟩ := m57
        obtain ⟨p0k, p0a, p0b, p0c, p0d, p0t, p0A, p0n, p0p, hc0⟩ := Ex.parts _ hx0
        subst hc0
        obtain ⟨cs1, rfl, hx1⟩ := m58
        obtain ⟨p1k, p1a, p1b, p1c, p1d, p1t, p1A, p1n, p1p, hc1⟩ := Ex.parts _ hx1
        subst hc1
        unfold Oper.wp
        go_simp
        have hbb : Below W.heap.size W (W.alloc (.cells #[.int .i64 p0k, .int .u64 p0a, .int .u64 p0b, .int .u64 p0c, .int .u64 p0d, .string p0t, .slice p0A p0n p0p, .int .i64 p1k, .int .u64 p1a, .int .u64 p1b, .int .u64 p1c, .int .u64 p1d, .string p1t, .slice p1A p1n p1p] 34)) := (Below.refl _ _).alloc (Nat.le_refl _) _
        exact hK _ _ ⟨W.heap.size, rfl, fun k => ex_two (hx0.grow hbb) (hx1.grow hbb) (blk_at rfl) rfl k⟩ (hC.below hbb) (fun j u _ h => Mn.keep hbb h)
      · obtain ⟨vg, hgd, mg⟩ := (hD ⟨36, .guard⟩ (by simp) rfl).2.at_ (d := 53) rfl
        have hgm : vg = .bool true := mg
        subst hgm
        refine ⟨wanted_some rfl rfl hgd, fun K hK => ?_⟩
        obtain ⟨v59, h59, m59⟩ := (hD ⟨42, .data⟩ (by simp) rfl).2.at_ (d := 59) rfl
        obtain ⟨bb, rfl, hkk⟩ := m59
        unfold Oper.wp
        go_simp
        refine (of_b _ _ _ _ W).mono ?_
        rintro e w' ⟨rfl, hb⟩
        exact hK _ _ ⟨_, rfl, (hkk 6).grow hb⟩ (hC.below hb) (fun j u _ h => Mn.keep hb h)
      · obtain ⟨vg, hgd, mg⟩ := (hD ⟨36, .guard⟩ (by simp) rfl).2.at_ (d := 53) rfl
        have hgm : vg = .bool true := mg
        subst hgm
        refine ⟨wanted_some rfl rfl hgd, fun K hK => ?_⟩
        unfold Oper.wp
        go_simp
        exact hK _ _ ⟨_, rfl, emptyX_is _⟩ hC (fun j u _ h => Mn.keep (Below.refl _ _) h)
      · obtain ⟨vg, hgd, mg⟩ := (hD ⟨36, .guard⟩ (by simp) rfl).2.at_ (d := 53) rfl
        have hgm : vg = .bool true := mg
        subst hgm
        refine ⟨wanted_some rfl rfl hgd, fun K hK => ?_⟩
        have h3 : act.tmps[3]? = some (.string s) := (hS.at_ 3 (by kernel_rfl)).trans rfl
        unfold Oper.wp
        go_simp
        exact hK _ _ rfl hC (fun j u _ h => Mn.keep (Below.refl _ _) h)
      · obtain ⟨vg, hgd, mg⟩ := (hD ⟨36, .guard⟩ (by simp) rfl).2.at_ (d := 53) rfl
        have hgm : vg = .bool true := mg
        subst hgm
        refine ⟨wanted_some rfl rfl hgd, fun K hK => ?_⟩
        obtain ⟨v54, h54, m54⟩ := (hD ⟨37, .data⟩ (by simp) rfl).2.at_ (d := 54) rfl
        obtain ⟨v60, h60, m60⟩ := (hD ⟨43, .data⟩ (by simp) rfl).2.at_ (d := 60) rfl
        obtain ⟨v61, h61, m61⟩ := (hD ⟨44, .data⟩ (by simp) rfl).2.at_ (d := 61) rfl
        obtain ⟨v62, h62, m62⟩ := (hD ⟨45, .data⟩ (by simp) rfl).2.at_ (d := 62) rfl
        have hm0 : v54 = .agg #[.slice A g.length cp] := m54
        have hm3 : v62 = .string s := m62
        subst hm0 hm3
        obtain ⟨csa, rfl, hxa⟩ := m60
        obtain ⟨csb, rfl, hxb⟩ := m61
        unfold Oper.wp
        go_simp
        refine (alike_any s (HG.out.grow hC.bel) hxa hxb hg HWF.out (wf_2 (by unfold I64; omega) (wf_1 (by unfold I64; omega) hwa) (wf_1 (by unfold I64; omega) hwa)) wf_empty (fun _ => same_tn)).mono ?_
        rintro e w' ⟨rfl, hb⟩
        exact hK _ _ rfl (hC.below hb) (fun j u _ h => Mn.keep hb h)
      · refine ⟨rfl, fun K hK => ?_⟩
        obtain ⟨v53, h53, m53⟩ := (hD ⟨36, .data⟩ (by simp) rfl).2.at_ (d := 53) rfl
        obtain ⟨v63, h63, m63⟩ := (hD ⟨46, .data⟩ (by simp) rfl).2.at_ (d := 63) rfl
        have hm1 : v53 = .bool true := m53
        have hm2 : v63 = .bool true := m63
        subst hm1 hm2
        unfold Oper.wp
        go_simp
        exact hK _ _ rfl hC (fun j u _ h => Mn.keep (Below.refl _ _) h)
      · refine ⟨rfl, fun K hK => ?_⟩
        obtain ⟨v64, h64, m64⟩ := (hD ⟨47, .data⟩ (by simp) rfl).2.at_ (d := 64) rfl
        have hm : v64 = .bool true := m64
        subst hm
        unfold Oper.wp
        go_simp
        exact hK _ _ rfl hC (fun j u _ h => Mn.keep (Below.refl _ _) h)
    · intro listed act W hC hS hl hM
      obtain ⟨v8, h8, m8⟩ := (hM 48 (by omega)).at_ (d := 8) rfl
      have hm : v8 = .bool true := m8
      subst hm
      go_wp2
      exact bodyPost_ret (v := .bool true) (by simp [results, Try.results11, go_sem, h8]) hS.1 ⟨rfl, hw0.trans (hC.bel.mono hw0.size)⟩
end Go.Proofs.Ytapihikbdcplaaa
