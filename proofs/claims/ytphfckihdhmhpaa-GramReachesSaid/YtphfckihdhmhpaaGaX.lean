/- The walk of the law GramReaches. -/
import Derived.Test.YtphfckihdhmhpaaGaW
import Derived.Test.YtphfckihdhmhpaaWhA
namespace Go.Proofs.Ytphfckihdhmhpaa
open Go.RowKit Go.Maps

def nameBb : ByteArray := ⟨#[98]⟩
def emE : Ex := .mk 1 0 0 0 0 ⟨#[]⟩ []
def twoG : List Rl := [(nameA, emE), (nameBb, emE)]
def emC : List Value := exCells 1 0 0 0 0 ⟨#[]⟩ none 0 0
theorem two_check : checkG twoG = 0 := by decide +kernel
theorem two_reach : reachG twoG = [true, false] := by decide +kernel
theorem two_is {w : World} {b : Nat} (h : Blk w b 36 #[.string ⟨#[97]⟩, .int .i64 1, .int .u64 0, .int .u64 0, .int .u64 0, .int .u64 0, .string ⟨#[]⟩, .slice none 0 0, .string ⟨#[98]⟩, .int .i64 1, .int .u64 0, .int .u64 0, .int .u64 0, .int .u64 0, .string ⟨#[]⟩, .slice none 0 0]) : GrIs w w.heap.size twoG (some ⟨b, 0, none⟩) 2 (fun _ => emC) :=
  gr_own (base := b) ⟨rfl, .inr ⟨b, 2, _, rfl, Nat.le_refl _, h, Nat.le_refl _, by unfold maxLen; omega, rfl, rfl⟩⟩ (fun r hr => by
    unfold twoG at hr
    simp only [List.mem_cons, List.not_mem_nil, or_false] at hr
    rcases hr with rfl | rfl <;> decide) (fun i r hr => by
    have : r.2 = emE := by
      have := List.mem_of_getElem? hr
      unfold twoG at this
      simp only [List.mem_cons, List.not_mem_nil, or_false] at this
      rcases this with rfl | rfl <;> rfl
    rw [this]
    exact emptyE_is w)
theorem cells_new (w : World) (t : TypeId) (cs : List Value) : ∀ (j : Nat) (u : Value), cs[j]? = some u → (w.alloc (.cells cs.toArray t)).cell? ((⟨w.heap.size, 0, none⟩ : Addr).add j) = some u := by
  intro j u h
  have hb : Blk (w.alloc (.cells cs.toArray t)) w.heap.size t cs.toArray := blk_at rfl
  rw [cell_add]
  exact (hb.cell j).trans (by rw [List.getElem?_toArray]; exact h)
theorem keepR_snoc : ∀ {g : List Rl} {l : List Bool} {j : Nat} {r : Rl} {b : Bool}, g[j]? = some r → l[j]? = some b → keepR (g.take (j + 1)) l = keepR (g.take j) l ++ (if b = true then [r] else [])
  | [], l, j, r, b, h, _ => by simp at h
  | x :: g, [], j, r, b, _, h => by simp at h
  | x :: g, c :: l, 0, r, b, h, h' => by
    simp only [List.getElem?_cons_zero, Option.some.injEq] at h h'
    subst h h'
    cases l <;> simp only [List.take_succ_cons, List.take_zero, keepR, List.nil_append]
  | x :: g, c :: l, j + 1, r, b, h, h' => by
    have ih := keepR_snoc (g := g) (l := l) (j := j) (r := r) (b := b) (by simpa using h) (by simpa using h')
    rw [List.take_succ_cons, List.take_succ_cons, keepR, keepR, ih]
    split <;> simp
/-- the grammar of kept rules while it is made -/
structure KeI (A : Option Addr) (cp : Nat) (w : World) (n nb : Nat) (kept : List Rl) (V : Option Addr) (c : Nat) (row : Nat → List Value) (W : World) : Prop where
  bel : Below w.heap.size w W
  gb : Blk W w.heap.size 24 #[.slice A n cp]
  nlo : w.heap.size < nb
  hb : Blk W nb 24 #[.slice V kept.length c]
  own : W.ownsRow (nb + 1) 36 8 (.slice V kept.length c) kept.length (ruF kept row 0)
  kids : ∀ (i : Nat) (r : Rl), kept[i]? = some r → r.1.size ≤ maxLen ∧ ExIs w w.heap.size r.2 (row i)
section
variable {A : Option Addr} {cp : Nat} {w : World} {n nb : Nat} {kept : List Rl} {V : Option Addr} {c : Nat} {row : Nat → List Value} {W W' : World}
theorem KeI.below (h : KeI A cp w n nb kept V c row W) (hb : Below W.heap.size W W') : KeI A cp w n nb kept V c row W' :=
  ⟨h.bel.trans (hb.mono h.bel.size), h.gb.below hb h.gb.lt, h.nlo, h.hb.below hb h.hb.lt, own_below h.own hb, h.kids⟩
theorem KeI.push {V' : Option Addr} {c' : Nat} {r : Rl} {rc : List Value} (h : KeI A cp w n nb kept V c row W) (hs : r.1.size ≤ maxLen) (hE : ExIs w w.heap.size r.2 rc)
    (hown : W'.ownsRow (nb + 1) 36 8 (.slice V' (kept.length + 1) c') (kept.length + 1) (ruF kept row 0 ++ (.string r.1 :: rc))) (hg : W.grownBy W' (Value.slice V kept.length c).ownBlock) :
    KeI A cp w n nb (kept ++ [r]) V' c' (fun i => if i = kept.length then rc else row i) (W'.setCell ⟨nb, 0, none⟩ (.slice V' (kept.length + 1) c')) := by
  have hn1 : some w.heap.size ≠ (Value.slice V kept.length c).ownBlock := own_ne h.own (by have := h.nlo; omega)
  have hn2 : some nb ≠ (Value.slice V kept.length c).ownBlock := own_ne h.own (Nat.lt_succ_self _)
  have hlow : Below w.heap.size W W' := ⟨hg.os, hg.tape, hg.output, hg.size, fun k hk => hg.block k (by have := h.bel.size; omega) fun e => by
    have h1 := h.own.lt k e.symm
    have := h.nlo
    omega⟩
  have hgb := h.gb.grown hg hn1
  have hhb := h.hb.grown hg hn2
  have hgs : W'.grownBy (W'.setCell ⟨nb, 0, none⟩ (.slice V' (kept.length + 1) c')) (some nb) := ⟨rfl, rfl, rfl, by simp [World.setCell], fun q hq hne => Below.heap_setCell W' ⟨nb, 0, none⟩ _ q (by rintro rfl; exact hne rfl)⟩
  have hrow : ruF (kept ++ [r]) (fun i => if i = kept.length then rc else row i) 0 = ruF kept row 0 ++ (.string r.1 :: rc) := by
    rw [ruF_app, ruF, ruF, List.append_nil, Nat.zero_add, if_pos rfl]
    rw [ruF_same kept _ row 0 (fun i hi => by rw [if_neg (by omega)])]
  have hlen : (kept ++ [r]).length = kept.length + 1 := by simp
  refine ⟨(h.bel.trans hlow).setCell (by have := h.nlo; simp; omega) _, hgb.far (by have := h.nlo; simp; omega) _, h.nlo, ?_, ?_, fun i r' hr' => ?_⟩
  · rw [hlen]
    exact hhb.set_ 0 _
  · rw [hrow, hlen]
    exact own_far hown hgs (Nat.lt_succ_self nb)
  · by_cases hi : i < kept.length
    · rw [List.getElem?_append_left hi] at hr'
      rw [if_neg (by omega)]
      exact h.kids i r' hr'
    · rw [List.getElem?_append_right (by omega)] at hr'
      have hij : i = kept.length := by have := getElem?_lt hr'; simp at this; omega
      subst hij
      rw [Nat.sub_self] at hr'
      simp only [List.getElem?_cons_zero, Option.some.injEq] at hr'
      subst hr'
      rw [if_pos rfl]
      exact ⟨hs, hE⟩
theorem KeI.gr (h : KeI A cp w n nb kept V c row W) : GrIs W W.heap.size kept V c row :=
  gr_own h.own (fun r hr => by
    obtain ⟨i, hi⟩ := List.mem_iff_getElem?.1 hr
    exact (h.kids i r hi).1) (fun i r hr => (h.kids i r hr).2.keep h.bel.size fun p hp => h.bel.cell hp)
end

set_option maxRecDepth 100000 in
set_option maxHeartbeats 1000000 in
theorem walk_GramReaches {g : List Rl} {A : Option Addr} {cp : Nat} {row : Nat → List Value} (w : World) (hg : GrIs w w.heap.size g A cp row) :
    Calls Try.prog 3 #[.agg #[.slice A g.length cp]] w fun e w' => e = .returned (.bool true) ∧ Below w.heap.size w w' := by
  obtain ⟨i0, hi0, hz0, hz1, hz2⟩ := info_parts rule_info
  have hre := fun W (hW : Below w.heap.size w W) => reach_any ((hg.on hW).more hW.size)
  have htw : ∀ (W : World) (b : Nat), Blk W b 36 #[.string ⟨#[97]⟩, .int .i64 1, .int .u64 0, .int .u64 0, .int .u64 0, .int .u64 0, .string ⟨#[]⟩, .slice none 0 0, .string ⟨#[98]⟩, .int .i64 1, .int .u64 0, .int .u64 0, .int .u64 0, .int .u64 0, .string ⟨#[]⟩, .slice none 0 0] →
      Calls Try.prog 14 #[.agg #[.slice (some ⟨b, 0, none⟩) 2 2]] W fun e w' => ∃ V c, e = .returned (.tuple #[.slice V 2 c, .int .i64 0]) ∧ Reads w' w'.heap.size 1 V 2 (bls [true, false]) ∧ Below W.heap.size W w' := fun W b hb => by
    have h := reach_any (two_is hb)
    refine Calls.mono (show Calls Try.prog 14 #[.agg #[.slice (some ⟨b, 0, none⟩) 2 2]] W (ReachQ twoG W) from h) ?_
    rintro e w' ⟨V, n, c, l, rfl, hl, rfl, hr, hb'⟩
    rw [two_check, if_pos rfl, two_reach] at hl
    subst hl
    exact ⟨V, c, by rw [two_check]; rfl, hr, hb'⟩
  have HRE := Lib.hid hre
  have HTW := Lib.hid htw
  have HG := Lib.hid hg
  clear hre htw hg
  go_enter Try.func3, Try.ntmps3
  go_wp2_with fail
  refine (HTW.out _ _ (blk_at (by simp))).mono ?_
  rintro e w1 ⟨V1, c1, rfl, hr1, hb1⟩
  have hgx := ((Blk.new w 24 #[.slice A g.length cp]).alloc (.cells #[.string ⟨#[97]⟩, .int .i64 1, .int .u64 0, .int .u64 0, .int .u64 0, .int .u64 0, .string ⟨#[]⟩, .slice none 0 0, .string ⟨#[98]⟩, .int .i64 1, .int .u64 0, .int .u64 0, .int .u64 0, .int .u64 0, .string ⟨#[]⟩, .slice none 0 0] 36)).below hb1 (by simp; omega)
  have hw1 : Below w.heap.size w w1 := Below.trans (by repeat (first | exact Below.refl _ _ | assumption | refine Below.drew ?_ | refine below_drewN ?_ _ | refine Below.alloc ?_ (by first | omega | (simp; omega) | simp) _ | refine Below.setCell ?_ (by first | omega | (simp; omega) | simp) _)) (hb1.mono (by first | omega | (simp; omega) | simp))
  have hgl := hgx.lt
  have heq := fun (W : World) (hW : Below w1.heap.size w1 W) (b : Nat) (hb : Blk W b 4 #[.bool true, .bool false]) => equalBo_any V1 (some ⟨b, 0, none⟩) 2 c1 2 2 [true, false] [true, false] w1.heap.size W.heap.size W (hr1.below hW) (reads_block hb rfl rfl hb.lt) (by omega) rfl
  have HEQ := Lib.hid heq
  clear hb1 hr1 heq HTW
  go_wp2_with fail
  refine (HEQ.out _ ((Below.refl _ _).alloc (Nat.le_refl _) _) _ (blk_at rfl)).mono ?_
  rintro e w2 ⟨rfl, d, rfl⟩
  have hw2 : Below w.heap.size w ((w1.alloc (.cells #[.bool true, .bool false] 4)).drewN d) := (by repeat (first | exact Below.refl _ _ | assumption | refine Below.drew ?_ | refine below_drewN ?_ _ | refine Below.alloc ?_ (by first | omega | (simp; omega) | simp) _ | refine Below.setCell ?_ (by first | omega | (simp; omega) | simp) _))
  have hgx2 := (hgx.alloc (.cells #[.bool true, .bool false] 4)).drewN d
  generalize ((w1.alloc (.cells #[.bool true, .bool false] 4)).drewN d) = w2 at hw2 hgx2 ⊢
  have g0 : w2.cell? ⟨w.heap.size, 0, none⟩ = some (.slice A g.length cp) := hgx2.cell 0
  clear HEQ hgx hw1 hgl
  go_wp2_with fail
  refine (HRE.out _ hw2).mono ?_
  rintro e w3 ⟨V3, n3, c3, l3, rfl, hl3, hn3, hr3, hb3⟩
  have hw3 := hw2.trans (hb3.mono hw2.size)
  have hgx3 := hgx2.below hb3 hgx2.lt
  have g3 : w3.cell? ⟨w.heap.size, 0, none⟩ = some (.slice A g.length cp) := hgx3.cell 0
  have hgl := hgx3.lt
  clear hb3 hgx2 hw2 g0
  by_cases h0 : checkG g = 0
  · rw [if_pos h0] at hl3
    subst hl3
    obtain rfl : n3 = g.length := by rw [← hn3, reach_len]
    have R := right_of h0
    have h10 := R.ten
    have hhc := held_check h0
    have hha := reach_all h0 hhc
    have HH : Hid (keepR (g.take g.length) (reachG g) = heldG g) := by show _ = _; rw [List.take_length]; rfl
    have hkl : ∀ j, (keepR (g.take j) (reachG g)).length ≤ 10 := fun j => Nat.le_trans (keepR_sub _ _).length_le (by rw [List.length_take]; omega)
    generalize reachG g = l at hr3 hn3 HH hkl
    rw [h0]
    have HHC := Lib.hid hhc
    have HHA := Lib.hid hha
    have HR3 := Lib.hid hr3
    have HN3 := Lib.hid hn3
    have HKL := Lib.hid hkl
    clear h0 R hhc hha hr3 hn3 hkl HRE
    go_upto_region 8 with fail
    have hnb : Blk (w3.alloc (.cells #[.slice none 0 0] 24)) w3.heap.size 24 #[.slice none 0 0] := blk_at rfl
    have hK0 : KeI A cp w g.length w3.heap.size (keepR (g.take 0) l) none 0 (fun _ => []) (w3.alloc (.cells #[.slice none 0 0] 24)) := by
      have e : keepR (g.take 0) l = [] := by rw [List.take_zero]; cases l <;> rfl
      rw [e]
      exact ⟨(by repeat (first | exact Below.refl _ _ | assumption | refine Below.drew ?_ | refine below_drewN ?_ _ | refine Below.alloc ?_ (by first | omega | (simp; omega) | simp) _ | refine Below.setCell ?_ (by first | omega | (simp; omega) | simp) _)), hgx3.alloc _, hgl, hnb, ⟨rfl, .inl ⟨rfl, rfl⟩⟩, fun i r hr => by simp at hr⟩
    have hr3' := HR3.out.alloc (Nat.le_refl _) (.cells #[.slice none 0 0] 24)
    have h3s : (w3.alloc (.cells #[.slice none 0 0] 24)).heap.size = w3.heap.size + 1 := by simp
    generalize (w3.alloc (.cells #[.slice none 0 0] 24)) = w4 at hnb hK0 hr3' h3s ⊢
    generalize hsb : w3.heap.size = nb at hnb hK0 hr3' hgl h3s ⊢
    have H3S := Lib.hid h3s
    have HK0 := Lib.hid hK0
    have HR4 := Lib.hid hr3'
    have hw4 := hK0.bel
    have g4 : w4.cell? ⟨w.heap.size, 0, none⟩ = some (.slice A g.length cp) := hK0.gb.cell 0
    clear hnb hK0 hr3' h3s HR3 hgx3 hw3 g3 hsb
    go_wp2
    go_loopw [8, 9, 54] (fun _ _ i wr => ∃ (j : Nat) (kept : List Rl) (V : Option Addr) (c : Nat) (row' : Nat → List Value), j ≤ g.length ∧ i = .int .i64 j ∧ Hid (kept = keepR (g.take j) l) ∧ kept.length ≤ 10 ∧ Hid (KeI A cp w g.length nb kept V c row' wr) ∧ Hid (Reads wr nb 1 V3 g.length (bls l)) ∧ nb < wr.heap.size) (fun _ _ i _ => g.length - (intOf i).toNat)
    case atStart => exact ⟨0, _, none, 0, _, by omega, rfl, rfl, HKL.out 0, HK0, HR4, by have := H3S.out; omega⟩
    case round =>
      obtain ⟨j, kept, V, c, row', hj, rfl, HKE, hkl, HK, HR, hnr⟩ := hrel
      have hwr := HK.out.bel
      have g0 : wr.cell? ⟨w.heap.size, 0, none⟩ = some (.slice A g.length cp) := HK.out.gb.cell 0
      clear g4
      by_cases hjk : j < g.length
      · obtain ⟨ad, nm, k', a', b', c', d', t', ks', A', cp', rfl, hab, hej, hnm, hE, ⟨e0, e1, e2, e3, e4, e5, e6, e7⟩⟩ := (HG.out.on hwr).rule hjk
        have hE0 := (HG.out.body j _ hej)
        have hadr : ad.block < wr.heap.size := by have := hwr.size; omega
        obtain ⟨ad3, b, rfl, hab3, hlb, hcb⟩ := HR.out.bool_at hjk
        have HEJ := Lib.hid hej
        have HLB := Lib.hid hlb
        have HKS := Lib.hid (keepR_snoc hej hlb)
        have HE := Lib.hid (hE.keep (Nat.le_refl _) (w' := w) fun p hp => (hwr.cell hp).symm)
        clear hE hE0 hej hlb
        go_upto_region 11 with fail
        have hbx : Blk (wr.alloc (.cells #[.string nm, .int .i64 k', .int .u64 a', .int .u64 b', .int .u64 c', .int .u64 d', .string t', .slice A' ks'.length cp'] 36)) wr.heap.size 36 #[.string nm, .int .i64 k', .int .u64 a', .int .u64 b', .int .u64 c', .int .u64 d', .string t', .slice A' ks'.length cp'] := blk_at rfl
        have hKa := HK.out.below ((Below.refl _ wr).alloc (Nat.le_refl _) (.cells #[.string nm, .int .i64 k', .int .u64 a', .int .u64 b', .int .u64 c', .int .u64 d', .string t', .slice A' ks'.length cp'] 36))
        have hRa := HR.out.alloc (by omega) (.cells #[.string nm, .int .i64 k', .int .u64 a', .int .u64 b', .int .u64 c', .int .u64 d', .string t', .slice A' ks'.length cp'] 36)
        have hcb' : (wr.alloc (.cells #[.string nm, .int .i64 k', .int .u64 a', .int .u64 b', .int .u64 c', .int .u64 d', .string t', .slice A' ks'.length cp'] 36)).cell? (ad3.add j) = some (.bool b) := (World.cell?_alloc_lt wr _ _ (by rw [add_block]; omega)).trans hcb
        have hsa : nb < (wr.alloc (.cells #[.string nm, .int .i64 k', .int .u64 a', .int .u64 b', .int .u64 c', .int .u64 d', .string t', .slice A' ks'.length cp'] 36)).heap.size := by simp; omega
        generalize (wr.alloc (.cells #[.string nm, .int .i64 k', .int .u64 a', .int .u64 b', .int .u64 c', .int .u64 d', .string t', .slice A' ks'.length cp'] 36)) = wk at hbx hKa hRa hcb' hsa ⊢
        generalize wr.heap.size = rb at hbx ⊢
        clear e0 e1 e2 e3 e4 e5 e6 e7 hcb g0 HK HR hwr hadr hnr
        have HRA := Lib.hid hRa
        have HKA := Lib.hid hKa
        cases b with
        | false =>
          clear hbx hRa hKa
          rw [if_neg (by decide), List.append_nil] at HKS
          have HKE2 : Hid (kept = keepR (g.take (j + 1)) l) := HKE.out.trans HKS.out.symm
          go_wp2
          go_roundw
          case rel => exact ⟨j + 1, kept, V, c, row', by omega, by go_num, HKE2, hkl, HKA, HRA, hsa⟩
          case measure => simp [intOf]; omega
        | true =>
          rw [if_pos rfl] at HKS
          have HKE2 : Hid (kept ++ [(nm, Ex.mk k' a' b' c' d' t' ks')] = keepR (g.take (j + 1)) l) := by show _ = _; rw [HKS.out, ← HKE.out]
          have hkl2 : (kept ++ [(nm, Ex.mk k' a' b' c' d' t' ks')]).length ≤ 10 := by rw [HKE2.out]; exact HKL.out _
          have n0 := hKa.hb.cell 0
          have hnl := hKa.hb.lt
          have hlo := hKa.nlo
          have x0 : wk.cell? ⟨rb, 0, none⟩ = some (.string nm) := hbx.cell 0; have x1 : wk.cell? ⟨rb, 1, none⟩ = some (.int .i64 k') := hbx.cell 1; have x2 : wk.cell? ⟨rb, 2, none⟩ = some (.int .u64 a') := hbx.cell 2; have x3 : wk.cell? ⟨rb, 3, none⟩ = some (.int .u64 b') := hbx.cell 3; have x4 : wk.cell? ⟨rb, 4, none⟩ = some (.int .u64 c') := hbx.cell 4; have x5 : wk.cell? ⟨rb, 5, none⟩ = some (.int .u64 d') := hbx.cell 5; have x6 : wk.cell? ⟨rb, 6, none⟩ = some (.string t') := hbx.cell 6; have x7 : wk.cell? ⟨rb, 7, none⟩ = some (.slice A' ks'.length cp') := hbx.cell 7
          clear hbx hRa hKa
          go_wp2_with (at_builtin; refine wpList_append_own _ rfl _ _ _ rfl (nb + 1) 36 i0 _ 8 96 Try.underlying22 hi0 hz0 hz1 hz2 rfl (by decide) _ _ _ rfl (HKA.out.own.alloc _) ⟨wk.heap.size, 0, none⟩ 1 1 [.string nm, .int .i64 k', .int .u64 a', .int .u64 b', .int .u64 c', .int .u64 d', .string t', .slice A' ks'.length cp'] rfl rfl (cells_new wk 36 [.string nm, .int .i64 k', .int .u64 a', .int .u64 b', .int .u64 c', .int .u64 d', .string t', .slice A' ks'.length cp']) (by simp [Value.oneCell']) (by unfold maxLen; omega) (by omega) (by simp; omega) ?_; intro v' w6 hown6 hgr6 _; obtain ⟨V6, c6, rfl⟩ := own_form hown6; have hb6 := (HKA.out.hb.alloc (.cells #[.string nm, .int .i64 k', .int .u64 a', .int .u64 b', .int .u64 c', .int .u64 d', .string t', .slice A' ks'.length cp'] 36)).grown hgr6 (own_ne HKA.out.own (Nat.lt_succ_self _)); have n6 := hb6.cell 0; have f6 := hb6.frozen 0)
          have hKb := (HKA.out.below ((Below.refl _ wk).alloc (Nat.le_refl _) (.cells #[.string nm, .int .i64 k', .int .u64 a', .int .u64 b', .int .u64 c', .int .u64 d', .string t', .slice A' ks'.length cp'] 36))).push (r := (nm, Ex.mk k' a' b' c' d' t' ks')) hnm HE.out hown6 hgr6
          have hRb : Reads (w6.setCell ⟨nb, 0, none⟩ (.slice V6 (kept.length + 1) c6)) nb 1 (some ad3) g.length (bls l) :=
            ((HRA.out.alloc (by omega) (.cells #[.string nm, .int .i64 k', .int .u64 a', .int .u64 b', .int .u64 c', .int .u64 d', .string t', .slice A' ks'.length cp'] 36)).grown hgr6 (by simp; omega) (fun q hq => by have := HKA.out.own.lt q hq; omega)).setCell (by simp) _
          have h6 := hgr6.size
          have h6b : nb < w6.heap.size := by simp only [World.size_alloc] at h6; omega
          have HKB := Lib.hid hKb
          have HRB := Lib.hid hRb
          clear hown6 hgr6 n6 f6 hb6 hKb hRb x0 x1 x2 x3 x4 x5 x6 x7 n0
          go_roundw
          case rel => exact ⟨j + 1, _, V6, c6, _, by omega, by go_num, HKE2, hkl2, HKB, HRB, by simpa [World.setCell] using h6b⟩
          case measure => simp [intOf]; omega
      · obtain rfl : j = g.length := by omega
        have hKF : kept = heldG g := HKE.out.trans HH.out
        have hre := reach_any HK.out.gr
        unfold ReachQ at hre
        rw [hKF, HHC.out, if_pos rfl, HHA.out, ← hKF] at hre
        have n0 := HK.out.hb.cell 0
        have HRE := Lib.hid hre
        have HB := Lib.hid HK.out.bel
        have hcon := fun (W : World) (V : Option Addr) (c : Nat) (h : Reads W W.heap.size 1 V kept.length (bls (List.replicate kept.length true))) => containsBo_any V kept.length c kept.length W.heap.size W h (by omega)
        have HCON := Lib.hid hcon
        have hbk := HK.out.hb
        have hnl := HK.out.hb.lt
        clear hKF hre hcon HK HR HKE HH HKL HHC HHA HN3 HK0 HR4 g0 hwr
        go_wp2_with fail
        refine HRE.out.mono ?_
        rintro e w7 ⟨V7, n7, c7, l7, rfl, rfl, hn7, hr7, hb7⟩
        obtain rfl : n7 = kept.length := by rw [← hn7, List.length_replicate]
        have hbk7 := hbk.below hb7 hnl
        have n7 : w7.cell? ⟨nb, 0, none⟩ = some (.slice V kept.length c) := hbk7.cell 0
        have HW7 := Lib.hid (HB.out.trans (hb7.mono HB.out.size))
        have HR7 := Lib.hid hr7
        clear hbk hbk7 hb7 hn7 hr7 n0 HRE
        go_wp2_with fail
        refine (HCON.out _ _ _ HR7.out).mono ?_
        rintro e w8 ⟨rfl, rfl⟩
        go_wp2
        go_ret
        exact ⟨rfl, HW7.out⟩
  · rw [if_neg h0] at hl3
    subst hl3
    obtain rfl : n3 = 0 := hn3.symm
    have h0' : (checkG g != 0) = true := by rw [bne_iff_ne]; exact h0
    generalize checkG g = x at h0' ⊢
    clear h0 hr3 hn3 HRE HG
    go_wp2
    go_ret
    exact ⟨rfl, hw3⟩
end Go.Proofs.Ytphfckihdhmhpaa
