/- The reader's alternatives. -/
import Derived.Test.YtndhbdbfjkmloaaDoorJReadLeast11
namespace Go.Proofs.YtndhbdbfjkmloaaDoor
open Go.RowKit

theorem altL_more {h : Bool} {f n : Nat} {acc : List Ex} {l : List UInt8} (ht : tokL l = .sg 47 n) : rdJ h (f + 1) (.altL acc) l = thenGo l n fun l1 => bindR (rdJ h f .seq l1) fun e l2 => rdJ h f (.altL (acc ++ [e])) l2 := by
  rw [rdJ, ht]
  rfl
theorem altL_end {h : Bool} {f : Nat} {acc : List Ex} {l : List UInt8} (ht : ∀ n, tokL l ≠ .sg 47 n) : rdJ h (f + 1) (.altL acc) l = some (.ok (oneOr 6 acc) l) := by
  rw [rdJ]
  cases hx : tokL l with
  | sg c n =>
    by_cases hc : c = 47
    · subst hc; exact absurd hx (ht n)
    · simp only [if_neg hc]
  | _ => rfl
theorem sg_ne {l : List UInt8} {c : Nat} (ht : ∀ n, tokL l ≠ .sg c n) (hc : c ≠ 0) : (tkV (tokL l)).sg ≠ c := by
  cases hx : tokL l with
  | sg c' n =>
    intro e
    have e' : c' = c := e
    subst e'
    exact ht n hx
  | nd e n =>
    cases e
    exact fun e => hc e.symm
  | _ => exact fun e => hc e.symm
set_option maxRecDepth 100000 in
set_option maxHeartbeats 4000000 in
theorem alt_any (s : ByteArray) (hs : s.size ≤ 100000) (h : Bool) (rb f : Nat) (H : DoesR s h rb f) (l : List UInt8) (R : Rs) (w : World) (hr : RdAt s h rb l w) (hj : rdJ h (f + 1) .alt l = some R) :
    Calls Tryd.prog 63 #[.pointer (some ⟨rb, 0, none⟩)] w (PrsQ s h rb w R) := by
  rw [rdJ] at hj
  have HQ : Hid ((∀ x l' cs W', R = .ok x l' → w.grownBy W' (some rb) → ExF (fun b => w.heap.size ≤ b ∧ b < W'.heap.size) W'.heap.size W' x cs → RdAt s h rb l' W' → PrsQ s h rb w R (.returned (.agg cs.toArray)) W') ∧
      (∀ l' W', R = .no l' → w.grownBy W' (some rb) → PrsQ s h rb w R (.panicked [{ v := faultV (posL s l'), recovered := false }]) W')) :=
    ⟨fun x l' cs W' e h1 h2 h3 => by subst e; exact ⟨h1, ⟨cs, rfl, h2⟩, h3⟩, fun l' W' e h1 => by subst e; exact ⟨h1, rfl⟩⟩
  generalize PrsQ s h rb w R = Q at HQ ⊢
  obtain ⟨i0, hi0, hz0, hz1, hz2⟩ := info_parts expr_info
  have hold := hr.blk.lt
  have hll := hr.pos.2.2
  cases hx : rdJ h f .seq l with
  | none => rw [hx] at hj; cases hj
  | some R1 =>
    rw [hx] at hj
    have HP := Lib.hid (H.seq l R1 _ (hr.below ((Below.refl _ _).alloc (Nat.le_refl _) (.cells #[.int .i64 0, .int .u64 0, .int .u64 0, .int .u64 0, .int .u64 0, .string ⟨#[]⟩, .slice none 0 0] 27))) hx)
    have HPR := Lib.hid H.seq
    have HBX : Hid (Blk (w.alloc (.cells #[.int .i64 0, .int .u64 0, .int .u64 0, .int .u64 0, .int .u64 0, .string ⟨#[]⟩, .slice none 0 0] 27)) w.heap.size 27 #[.int .i64 0, .int .u64 0, .int .u64 0, .int .u64 0, .int .u64 0, .string ⟨#[]⟩, .slice none 0 0]) := blk_at rfl
    have HG0 : Hid (w.grownBy (w.alloc (.cells #[.int .i64 0, .int .u64 0, .int .u64 0, .int .u64 0, .int .u64 0, .string ⟨#[]⟩, .slice none 0 0] 27)) (some rb)) := World.grownBy_alloc _ _ _
    have hz : (w.alloc (.cells #[.int .i64 0, .int .u64 0, .int .u64 0, .int .u64 0, .int .u64 0, .string ⟨#[]⟩, .slice none 0 0] 27)).heap.size = w.heap.size + 1 := by simp
    have hend := rd_ends h .seq l
    have HL1 : Hid (∀ x l1, R1 = .ok x l1 → l1.length + 1 ≤ l.length) := by
      obtain ⟨R', h1, h2⟩ := hend
      obtain rfl := h1.uniq ⟨f, hx⟩
      exact h2
    clear hend hx hr H
    go_enter Tryd.func63, Tryd.ntmps63
    go_wp2_with fail
    refine HP.out.mono ?_
    generalize (w.alloc (.cells #[.int .i64 0, .int .u64 0, .int .u64 0, .int .u64 0, .int .u64 0, .string ⟨#[]⟩, .slice none 0 0] 27)) = wa at HP HBX HG0 hz ⊢
    rintro e w1 ⟨hg1, hR1⟩
    cases R1 with
    | no l1 =>
      simp only at hR1
      subst hR1
      injection hj with hj
      go_wp2
      exact ⟨rfl, HQ.out.2 _ _ hj.symm (HG0.out.trans hg1)⟩
    | ok x l1 =>
      obtain ⟨⟨cs, rfl, hE⟩, hr1⟩ := hR1
      obtain ⟨k1, a1, b1, c1, d1, t1, A1, n1, cp1, rfl⟩ := Ex.parts _ hE.is
      have hj1 : rdJ h f (.altL [x]) l1 = some R := hj
      have hl1 := HL1.out _ _ rfl
      rw [hz] at hE
      have hsz1 := hg1.size
      rw [hz] at hsz1
      have hK1 := KidsX.one (base := w.heap.size + 1) hE (Nat.le_refl _) hsz1
      have hI1 : SqI s h rb w [x] (some ⟨w1.heap.size, 0, none⟩) 1 (fun _ => [.int .i64 k1, .int .u64 a1, .int .u64 b1, .int .u64 c1, .int .u64 d1, .string t1, .slice A1 n1 cp1]) l1 (w1.alloc (.cells #[.int .i64 k1, .int .u64 a1, .int .u64 b1, .int .u64 c1, .int .u64 d1, .string t1, .slice A1 n1 cp1] 27)) :=
        ⟨(HG0.out.trans hg1).trans (World.grownBy_alloc _ _ _), (HBX.out.grown hg1 (fun e => by injection e with e; omega)).alloc _, hK1, hr1.below ((Below.refl _ _).alloc (Nat.le_refl _) _), by simp, by simp; omega, hold⟩
      have HI1 := Lib.hid hI1
      have HJ1 := Lib.hid hj1
      clear hI1 hj1 hj hK1 hE hr1 hg1 HP HBX HG0 hz hsz1 HL1
      go_wp2_with fail
      go_loopg [3] f (fun n s3 wr => ∃ (acc : List Ex) (V : Option Addr) (cv : Nat) (rows : Nat → List Value) (l' : List UInt8), s3 = .slice V acc.length cv ∧ Hid (SqI s h rb w acc V cv rows l' wr) ∧ Hid (n ≤ f ∧ rdJ h n (.altL acc) l' = some R))
      case atStart => exact ⟨[x], _, 1, _, l1, rfl, HI1, Nat.le_refl _, HJ1.out⟩
      case round =>
        clear HI1 HJ1
        obtain ⟨acc, V, cv, rows, l', rfl, HI, HJ⟩ := hrel
        have hI := HI.out
        obtain ⟨hn, hjn⟩ := HJ.out
        obtain ⟨n', rfl⟩ : ∃ n', gk = n' + 1 := by
          cases gk with
          | zero => cases hjn
          | succ n => exact ⟨n, rfl⟩
        by_cases h47 : ∃ n, tokL l' = .sg 47 n
        · obtain ⟨n, ht⟩ := h47
          rw [altL_more ht] at hjn
          have hsg : (tkV (tokL l')).sg = 47 := by rw [ht]; rfl
          have y12 : wr.cell? ⟨rb, 12, none⟩ = some (.int .u8 47) := (hI.rd.blk.cell 12).trans (by rw [rdC_get, hsg]; rfl)
          have hkn : tkn (tokL l') = n := by rw [ht]; rfl
          have hgl := go_lt (tok_sgn ht).1 (tok_sgn ht).2.1
          have HGO := Lib.hid (go_any s hs h rb l' wr hI.rd)
          unfold GoQ at HGO
          rw [hkn] at HGO
          unfold thenGo at hjn
          clear hsg hkn ht
          generalize goL l' n = lg at HGO hjn hgl
          have HJN0 := Lib.hid hjn
          have hhold := hI.old
          clear hI hjn HJ
          go_wp2_with fail
          refine HGO.out.mono ?_
          rintro e w2 ⟨hg2, ⟨hbad, rfl⟩ | ⟨hgood, rfl, hr2⟩⟩
          · have hRe : Rs.no lg = R := by
              have := HJN0.out
              rw [if_pos hbad] at this
              exact Option.some.inj this
            have HRE := Lib.hid hRe
            clear hRe
            go_wp2
            exact ⟨rfl, HQ.out.2 _ _ HRE.out.symm (HI.out.grown.trans hg2)⟩
          · have HI2 := Lib.hid (HI.out.went hg2 hr2 (by omega))
            have hjn := HJN0.out
            rw [if_neg (by rw [hgood]; decide)] at hjn
            have HL2 : Hid (∀ R2, rdJ h n' .seq lg = some R2 → ∀ x l2, R2 = .ok x l2 → l2.length + 1 ≤ lg.length) := fun R2 h2 => by
              obtain ⟨R', h3, h4⟩ := rd_ends h .seq lg
              obtain rfl := h3.uniq ⟨n', h2⟩
              exact h4
            cases hx2 : rdJ h n' .seq lg with
            | none => rw [hx2] at hjn; cases hjn
            | some R2 =>
            rw [hx2] at hjn
            have HX3 := Lib.hid (rdJ_le (show n' ≤ f by omega) hx2)
            have HL3 := Lib.hid (HL2.out R2 hx2)
            have HJN := Lib.hid hjn
            clear hx2 hjn HL2 HJN0 HGO hg2 hr2 hgl y12 HI
            go_wp2_with fail
            refine (HPR.out lg R2 w2 HI2.out.rd HX3.out).mono ?_
            rintro e w3 ⟨hg3, hR3⟩
            cases R2 with
            | no l2 =>
              simp only at hR3
              subst hR3
              have hRe : Rs.no l2 = R := Option.some.inj HJN.out
              have HRE := Lib.hid hRe
              clear hRe
              go_wp2
              exact ⟨rfl, HQ.out.2 _ _ HRE.out.symm (HI2.out.grown.trans hg3)⟩
            | ok x2 l2 =>
              obtain ⟨⟨cs, rfl, hE⟩, hr3⟩ := hR3
              obtain ⟨k2, a2, b2, c2, d2, t2, A2, n2, cp2, rfl⟩ := Ex.parts _ hE.is
              have hone := ex_one' hE.is
              have hl2 := HL3.out _ _ rfl
              have hfew := HI2.out.few
              have hI3 := HI2.out.went hg3 hr3 (by omega)
              have hlo : w.heap.size + 1 ≤ w2.heap.size := HI2.out.box.lt
              have hold2 : ∀ q, (Value.slice V acc.length cv).ownBlock = some q → q < w2.heap.size := HI2.out.kids.old
              have hsz3 := hg3.size
              have hI4 := hI3.below ((Below.refl _ _).alloc (Nat.le_refl _) (.cells #[.int .i64 k2, .int .u64 a2, .int .u64 b2, .int .u64 c2, .int .u64 d2, .string t2, .slice A2 n2 cp2] 27))
              have hE4 := hE.allocR (.cells #[.int .i64 k2, .int .u64 a2, .int .u64 b2, .int .u64 c2, .int .u64 d2, .string t2, .slice A2 n2 cp2] 27)
              have hkb : Blk (w3.alloc (.cells #[.int .i64 k2, .int .u64 a2, .int .u64 b2, .int .u64 c2, .int .u64 d2, .string t2, .slice A2 n2 cp2] 27)) w3.heap.size 27 #[.int .i64 k2, .int .u64 a2, .int .u64 b2, .int .u64 c2, .int .u64 d2, .string t2, .slice A2 n2 cp2] := blk_at rfl
              have hb4 : w.heap.size + 1 ≤ (w3.alloc (.cells #[.int .i64 k2, .int .u64 a2, .int .u64 b2, .int .u64 c2, .int .u64 d2, .string t2, .slice A2 n2 cp2] 27)).heap.size := by simp; omega
              have hal : acc.length ≤ 100000 := by omega
              have hl22 : acc.length + 1 + l2.length ≤ s.size + 1 := by omega
              clear hI3 hg3 hE hr3 hsz3 HI2 hfew hl2
              go_wp2_with (at_builtin; refine wpList_append_lies _ rfl _ _ _ rfl (w.heap.size + 1) 27 i0 _ 7 80 Tryd.underlying25 hi0 hz0 hz1 hz2 rfl (by omega) (.slice V acc.length cv) acc.length (kdF rows acc.length) rfl hI4.kids.own ⟨w3.heap.size, 0, none⟩ 1 1 [.int .i64 k2, .int .u64 a2, .int .u64 b2, .int .u64 c2, .int .u64 d2, .string t2, .slice A2 n2 cp2] rfl rfl (fun i u hu => by rw [cell_add]; exact (hkb.cell i).trans (by rw [List.getElem?_toArray]; exact hu)) hone (by omega) (by unfold maxLen; omega) (by omega) hb4 (w3.heap.size + 1) (by simp) ?_; intro g4 cap4 w4 hown4 hgrow4 hat4 hlt4)
              have hI5 := hI4.push hlo hold2 hE4 hown4 hgrow4 (by
                rcases hat4 with h | h
                · exact .inl h.symm
                · right
                  show some g4 = _
                  rw [h]
                  simp) hl22
              have HI5 := Lib.hid hI5
              clear hI5 hI4 hE4 hkb hown4 hgrow4 hat4 hlt4 hb4
              go_roundg n'
              case rel => exact ⟨acc ++ [x2], _, cap4, _, l2, by rw [List.length_append]; rfl, HI5, by omega, HJN.out⟩
              case measure => omega
        · rw [altL_end (fun n e => h47 ⟨n, e⟩)] at hjn
          have HRE : Hid (R = .ok (oneOr 6 acc) l') := (Option.some.inj hjn).symm
          have hsg := sg_ne (c := 47) (fun n e => h47 ⟨n, e⟩) (by decide)
          have y12 := (hI.rd.blk.cell 12)
          rw [rdC_get] at y12
          have e12 : (((tkV (tokL l')).sg : Int) == 47) = false := by rw [beq_eq_false_iff_ne]; omega
          generalize (tkV (tokL l')).sg = sgv at y12 e12
          have HI2 := HI
          clear hjn h47 HJ hI hsg HI
          rename World => w2
          by_cases h1 : acc.length = 1
          · obtain ⟨x, rfl⟩ : ∃ x, acc = [x] := by
              match acc, h1 with
              | [x], _ => exact ⟨x, rfl⟩
            clear h1
            obtain ⟨g, rfl, hg1, hg2⟩ := HI2.out.kids.at (by simp)
            obtain ⟨hE, hcell⟩ := HI2.out.kids.one_at
            obtain ⟨k2, a2, b2, c2, d2, t2, A2, n2, cp2, hrows⟩ := Ex.parts _ hE.is
            rw [hrows] at hE hcell
            have z0 := hcell 0 _ rfl
            have z1 := hcell 1 _ rfl
            have z2 := hcell 2 _ rfl
            have z3 := hcell 3 _ rfl
            have z4 := hcell 4 _ rfl
            have z5 := hcell 5 _ rfl
            have z6 := hcell 6 _ rfl
            have hbx := HI2.out.box
            have hno := HI2.out.old
            have HE := Lib.hid hE
            clear hcell hrows hE
            have hob := (hbx).lt
            have yz0 : w2.cell? ⟨w.heap.size, 0, none⟩ = some (.int .i64 0) := hbx.cell 0; have yz1 : w2.cell? ⟨w.heap.size, 1, none⟩ = some (.int .u64 0) := hbx.cell 1; have yz2 : w2.cell? ⟨w.heap.size, 2, none⟩ = some (.int .u64 0) := hbx.cell 2; have yz3 : w2.cell? ⟨w.heap.size, 3, none⟩ = some (.int .u64 0) := hbx.cell 3; have yz4 : w2.cell? ⟨w.heap.size, 4, none⟩ = some (.int .u64 0) := hbx.cell 4; have yz5 : w2.cell? ⟨w.heap.size, 5, none⟩ = some (.string ⟨#[]⟩) := hbx.cell 5; have yz6 : w2.cell? ⟨w.heap.size, 6, none⟩ = some (.slice none 0 0) := hbx.cell 6; have yf0 := hbx.frozen 0; have yf1 := hbx.frozen 1; have yf2 := hbx.frozen 2; have yf3 := hbx.frozen 3; have yf4 := hbx.frozen 4; have yf5 := hbx.frozen 5; have yf6 := hbx.frozen 6; have ye0 : (w2.setCell ⟨w.heap.size, 0, none⟩ (.int .i64 k2)).cell? ⟨w.heap.size, 0, none⟩ = some (.int .i64 k2) := (hbx.set_ 0 _).cell 0; have ye1 : ((w2.setCell ⟨w.heap.size, 0, none⟩ (.int .i64 k2)).setCell ⟨w.heap.size, 1, none⟩ (.int .u64 a2)).cell? ⟨w.heap.size, 1, none⟩ = some (.int .u64 a2) := ((hbx.set_ 0 _).set_ 1 _).cell 1; have ye2 : (((w2.setCell ⟨w.heap.size, 0, none⟩ (.int .i64 k2)).setCell ⟨w.heap.size, 1, none⟩ (.int .u64 a2)).setCell ⟨w.heap.size, 2, none⟩ (.int .u64 b2)).cell? ⟨w.heap.size, 2, none⟩ = some (.int .u64 b2) := (((hbx.set_ 0 _).set_ 1 _).set_ 2 _).cell 2; have ye3 : ((((w2.setCell ⟨w.heap.size, 0, none⟩ (.int .i64 k2)).setCell ⟨w.heap.size, 1, none⟩ (.int .u64 a2)).setCell ⟨w.heap.size, 2, none⟩ (.int .u64 b2)).setCell ⟨w.heap.size, 3, none⟩ (.int .u64 c2)).cell? ⟨w.heap.size, 3, none⟩ = some (.int .u64 c2) := ((((hbx.set_ 0 _).set_ 1 _).set_ 2 _).set_ 3 _).cell 3; have ye4 : (((((w2.setCell ⟨w.heap.size, 0, none⟩ (.int .i64 k2)).setCell ⟨w.heap.size, 1, none⟩ (.int .u64 a2)).setCell ⟨w.heap.size, 2, none⟩ (.int .u64 b2)).setCell ⟨w.heap.size, 3, none⟩ (.int .u64 c2)).setCell ⟨w.heap.size, 4, none⟩ (.int .u64 d2)).cell? ⟨w.heap.size, 4, none⟩ = some (.int .u64 d2) := (((((hbx.set_ 0 _).set_ 1 _).set_ 2 _).set_ 3 _).set_ 4 _).cell 4; have ye5 : ((((((w2.setCell ⟨w.heap.size, 0, none⟩ (.int .i64 k2)).setCell ⟨w.heap.size, 1, none⟩ (.int .u64 a2)).setCell ⟨w.heap.size, 2, none⟩ (.int .u64 b2)).setCell ⟨w.heap.size, 3, none⟩ (.int .u64 c2)).setCell ⟨w.heap.size, 4, none⟩ (.int .u64 d2)).setCell ⟨w.heap.size, 5, none⟩ (.string t2)).cell? ⟨w.heap.size, 5, none⟩ = some (.string t2) := ((((((hbx.set_ 0 _).set_ 1 _).set_ 2 _).set_ 3 _).set_ 4 _).set_ 5 _).cell 5; have ye6 : (((((((w2.setCell ⟨w.heap.size, 0, none⟩ (.int .i64 k2)).setCell ⟨w.heap.size, 1, none⟩ (.int .u64 a2)).setCell ⟨w.heap.size, 2, none⟩ (.int .u64 b2)).setCell ⟨w.heap.size, 3, none⟩ (.int .u64 c2)).setCell ⟨w.heap.size, 4, none⟩ (.int .u64 d2)).setCell ⟨w.heap.size, 5, none⟩ (.string t2)).setCell ⟨w.heap.size, 6, none⟩ (.slice A2 n2 cp2)).cell? ⟨w.heap.size, 6, none⟩ = some (.slice A2 n2 cp2) := (((((((hbx.set_ 0 _).set_ 1 _).set_ 2 _).set_ 3 _).set_ 4 _).set_ 5 _).set_ 6 _).cell 6
            go_wp2
            exact bodyPost_ret (v := .agg #[.int .i64 k2, .int .u64 a2, .int .u64 b2, .int .u64 c2, .int .u64 d2, .string t2, .slice A2 n2 cp2]) (by simp [results, Tryd.results63, go_sem, ye0, ye1, ye2, ye3, ye4, ye5, ye6]) rfl (HQ.out.1 _ _ [.int .i64 k2, .int .u64 a2, .int .u64 b2, .int .u64 c2, .int .u64 d2, .string t2, .slice A2 n2 cp2] _ HRE.out (grown_set7 HI2.out.grown (Nat.le_refl _) _ _ _ _ _ _ _) ((HE.out).res7 (by omega) (by omega) _ _ _ _ _ _ _) ((HI2.out.rd).set7 (by omega) _ _ _ _ _ _ _))
          · have h1' : ((acc.length : Int) == 1) = false := by rw [beq_eq_false_iff_ne]; omega
            have HE := Lib.hid (HI2.out.kids.node 6 0 0 0 0 ⟨#[]⟩ (by decide))
            have hbx := HI2.out.box
            have hno := HI2.out.old
            have HRE2 : Hid (R = .ok (.mk 6 0 0 0 0 ⟨#[]⟩ acc) l') := by
              show _ = _
              rw [HRE.out, oneOr_ne h1]
            clear h1
            have hob := (hbx).lt
            have yz0 : w2.cell? ⟨w.heap.size, 0, none⟩ = some (.int .i64 0) := hbx.cell 0; have yz1 : w2.cell? ⟨w.heap.size, 1, none⟩ = some (.int .u64 0) := hbx.cell 1; have yz2 : w2.cell? ⟨w.heap.size, 2, none⟩ = some (.int .u64 0) := hbx.cell 2; have yz3 : w2.cell? ⟨w.heap.size, 3, none⟩ = some (.int .u64 0) := hbx.cell 3; have yz4 : w2.cell? ⟨w.heap.size, 4, none⟩ = some (.int .u64 0) := hbx.cell 4; have yz5 : w2.cell? ⟨w.heap.size, 5, none⟩ = some (.string ⟨#[]⟩) := hbx.cell 5; have yz6 : w2.cell? ⟨w.heap.size, 6, none⟩ = some (.slice none 0 0) := hbx.cell 6; have yf0 := hbx.frozen 0; have yf1 := hbx.frozen 1; have yf2 := hbx.frozen 2; have yf3 := hbx.frozen 3; have yf4 := hbx.frozen 4; have yf5 := hbx.frozen 5; have yf6 := hbx.frozen 6; have ye0 : (w2.setCell ⟨w.heap.size, 0, none⟩ (.int .i64 6)).cell? ⟨w.heap.size, 0, none⟩ = some (.int .i64 6) := (hbx.set_ 0 _).cell 0; have ye1 : ((w2.setCell ⟨w.heap.size, 0, none⟩ (.int .i64 6)).setCell ⟨w.heap.size, 1, none⟩ (.int .u64 0)).cell? ⟨w.heap.size, 1, none⟩ = some (.int .u64 0) := ((hbx.set_ 0 _).set_ 1 _).cell 1; have ye2 : (((w2.setCell ⟨w.heap.size, 0, none⟩ (.int .i64 6)).setCell ⟨w.heap.size, 1, none⟩ (.int .u64 0)).setCell ⟨w.heap.size, 2, none⟩ (.int .u64 0)).cell? ⟨w.heap.size, 2, none⟩ = some (.int .u64 0) := (((hbx.set_ 0 _).set_ 1 _).set_ 2 _).cell 2; have ye3 : ((((w2.setCell ⟨w.heap.size, 0, none⟩ (.int .i64 6)).setCell ⟨w.heap.size, 1, none⟩ (.int .u64 0)).setCell ⟨w.heap.size, 2, none⟩ (.int .u64 0)).setCell ⟨w.heap.size, 3, none⟩ (.int .u64 0)).cell? ⟨w.heap.size, 3, none⟩ = some (.int .u64 0) := ((((hbx.set_ 0 _).set_ 1 _).set_ 2 _).set_ 3 _).cell 3; have ye4 : (((((w2.setCell ⟨w.heap.size, 0, none⟩ (.int .i64 6)).setCell ⟨w.heap.size, 1, none⟩ (.int .u64 0)).setCell ⟨w.heap.size, 2, none⟩ (.int .u64 0)).setCell ⟨w.heap.size, 3, none⟩ (.int .u64 0)).setCell ⟨w.heap.size, 4, none⟩ (.int .u64 0)).cell? ⟨w.heap.size, 4, none⟩ = some (.int .u64 0) := (((((hbx.set_ 0 _).set_ 1 _).set_ 2 _).set_ 3 _).set_ 4 _).cell 4; have ye5 : ((((((w2.setCell ⟨w.heap.size, 0, none⟩ (.int .i64 6)).setCell ⟨w.heap.size, 1, none⟩ (.int .u64 0)).setCell ⟨w.heap.size, 2, none⟩ (.int .u64 0)).setCell ⟨w.heap.size, 3, none⟩ (.int .u64 0)).setCell ⟨w.heap.size, 4, none⟩ (.int .u64 0)).setCell ⟨w.heap.size, 5, none⟩ (.string ⟨#[]⟩)).cell? ⟨w.heap.size, 5, none⟩ = some (.string ⟨#[]⟩) := ((((((hbx.set_ 0 _).set_ 1 _).set_ 2 _).set_ 3 _).set_ 4 _).set_ 5 _).cell 5; have ye6 : (((((((w2.setCell ⟨w.heap.size, 0, none⟩ (.int .i64 6)).setCell ⟨w.heap.size, 1, none⟩ (.int .u64 0)).setCell ⟨w.heap.size, 2, none⟩ (.int .u64 0)).setCell ⟨w.heap.size, 3, none⟩ (.int .u64 0)).setCell ⟨w.heap.size, 4, none⟩ (.int .u64 0)).setCell ⟨w.heap.size, 5, none⟩ (.string ⟨#[]⟩)).setCell ⟨w.heap.size, 6, none⟩ (.slice V acc.length cv)).cell? ⟨w.heap.size, 6, none⟩ = some (.slice V acc.length cv) := (((((((hbx.set_ 0 _).set_ 1 _).set_ 2 _).set_ 3 _).set_ 4 _).set_ 5 _).set_ 6 _).cell 6
            go_wp2
            exact bodyPost_ret (v := .agg #[.int .i64 6, .int .u64 0, .int .u64 0, .int .u64 0, .int .u64 0, .string ⟨#[]⟩, .slice V acc.length cv]) (by simp [results, Tryd.results63, go_sem, ye0, ye1, ye2, ye3, ye4, ye5, ye6]) rfl (HQ.out.1 _ _ [.int .i64 6, .int .u64 0, .int .u64 0, .int .u64 0, .int .u64 0, .string ⟨#[]⟩, .slice V acc.length cv] _ HRE2.out (grown_set7 HI2.out.grown (Nat.le_refl _) _ _ _ _ _ _ _) ((HE.out).res7 (by omega) (by omega) _ _ _ _ _ _ _) ((HI2.out.rd).set7 (by omega) _ _ _ _ _ _ _))
end Go.Proofs.YtndhbdbfjkmloaaDoor
