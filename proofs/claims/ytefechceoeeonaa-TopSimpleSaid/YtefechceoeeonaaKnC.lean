/- kernel.Kernel. -/
import Derived.Test.YtefechceoeeonaaKnB
import Derived.Test.YtefechceoeeonaaKdR
import Derived.Test.YtefechceoeeonaaGK
import Derived.Test.YtefechceoeeonaaGH
namespace Go.Proofs.Ytefechceoeeonaa
open Go.RowKit Go.Maps

/-- how many nodes there will be -/
def cntG (g : List Rl) : Nat := (g.map fun r => cntE r.2).sum
def kerG (g : List Rl) : List Rl := g.map fun r => (r.1, kerE r.2)
/-- what goes wrong -/
def kerR (g : List Rl) : Int := if checkG g ≠ 0 then checkG g else if 400 < cntG g then 2 else 0
theorem kerG_len (g : List Rl) : (kerG g).length = g.length := by simp [kerG]
theorem Fit1.of_rt {g : List Rl} {e : Ex} (h : Rt g e) : Fit1 e := by
  induction h with
  | mk k a b c d t ks hf _ _ ih =>
    refine .mk k a b c d t ks (fit_len hf) (fun hk => ?_) ih
    unfold fitB lims at hf
    rcases hk with rfl | rfl <;> simp at hf <;> omega
/-- what kernel.Kernel leaves -/
def KernelQ (g : List Rl) (w : World) (e : Ending) (w' : World) : Prop := Below w.heap.size w w' ∧
  ((kerR g ≠ 0 ∧ e = .returned (.tuple #[.agg #[.slice none 0 0], .int .i64 (kerR g)])) ∨
   (kerR g = 0 ∧ ∃ V c rows, e = .returned (.tuple #[.agg #[.slice V g.length c], .int .i64 0]) ∧ GrF (fun b => w.heap.size ≤ b ∧ b < w'.heap.size) w'.heap.size w' (kerG g) V c rows))
/-- while rules are made -/
structure KnI (f : Ex → Ex) (g : List Rl) (w : World) (nb : Nat) (V : Option Addr) (c : Nat) (rows : Nat → List Value) (j : Nat) (W : World) : Prop where
  bel : Below w.heap.size w W
  res : Blk W (w.heap.size + 1) 24 #[.slice none 0 0]
  nlo : w.heap.size + 1 < nb
  out : Blk W nb 24 #[.slice V j c]
  rus : Rus (nb + 1) W ((g.take j).map fun r => (r.1, f r.2)) V c rows
section
variable {f : Ex → Ex} {g : List Rl} {w : World} {nb : Nat} {V : Option Addr} {c : Nat} {rows : Nat → List Value} {j : Nat} {W W' : World}
theorem KnI.below (h : KnI f g w nb V c rows j W) (hb : Below W.heap.size W W') : KnI f g w nb V c rows j W' :=
  ⟨h.bel.trans (hb.mono h.bel.size), h.res.below hb h.res.lt, h.nlo, h.out.below hb h.out.lt, h.rus.below hb⟩
theorem KnI.push {V' : Option Addr} {c' lo : Nat} {r : Rl} {rc : List Value} (h : KnI f g w nb V c rows j W) (he : g[j]? = some r) (hlo : nb + 1 ≤ lo) (hold : ∀ q, (Value.slice V j c).ownBlock = some q → q < lo) (hn : r.1.size ≤ maxLen) (hE : ExF (fun b => lo ≤ b ∧ b < W.heap.size) W.heap.size W (f r.2) rc)
    (hown : W'.ownsRow (nb + 1) 44 8 (.slice V' (j + 1) c') (j + 1) (ruF ((g.take j).map fun r => (r.1, f r.2)) rows 0 ++ (.string r.1 :: rc))) (hg : W.grownBy W' (Value.slice V j c).ownBlock)
    (hat : (Value.slice V' (j + 1) c').ownBlock = (Value.slice V j c).ownBlock ∨ (Value.slice V' (j + 1) c').ownBlock = some W.heap.size) :
    KnI f g w nb V' c' (fun i => if i = j then rc else rows i) (j + 1) (W'.setCell ⟨nb, 0, none⟩ (.slice V' (j + 1) c')) := by
  have hjl := getElem?_lt he
  have hnl := h.nlo
  have hl : ((g.take j).map fun r => (r.1, f r.2)).length = j := by simp; omega
  have hne : ∀ b, b < nb + 1 → some b ≠ (Value.slice V j c).ownBlock := fun b hb e => by
    have := h.rus.own.lt b (by rw [hl]; exact e.symm)
    omega
  have hlow : Below w.heap.size W W' := ⟨hg.os, hg.tape, hg.output, hg.size, fun q hq => hg.block q (by have := h.bel.size; omega) (hne q (by omega))⟩
  have hk := h.rus.push (V' := V') (c' := c') (lo := lo) (r := (r.1, f r.2)) hlo (by rw [hl]; exact hold) hn hE (by rw [hl]; exact hown) (by rw [hl]; exact hg) (by rw [hl]; exact hat)
  rw [hl] at hk
  refine ⟨(h.bel.trans hlow).setCell (by simp; omega) _, ((h.res.grown hg (hne _ (by omega))).far (by simp; omega) _), hnl, ((h.out.grown hg (hne _ (by omega))).set_ 0 _), ?_⟩
  rw [take_succ_of he, List.map_append, List.map_cons, List.map_nil]
  exact hk.far (by omega) _ _
end

set_option maxRecDepth 100000 in
set_option maxHeartbeats 8000000 in
theorem kernel_any {g : List Rl} {A : Option Addr} {cp : Nat} {row : Nat → List Value} {w : World} (h : GrIs w w.heap.size g A cp row) : Calls Try.prog 12 #[.agg #[.slice A g.length cp]] w (KernelQ g w) := by
  have hck := fun W (hW : Below w.heap.size w W) => gcheck_any (h.grow hW)
  have HCK := Lib.hid hck
  have hQ1 : kerR g ≠ 0 → ∀ w', Below w.heap.size w w' → KernelQ g w (.returned (.tuple #[.agg #[.slice none 0 0], .int .i64 (kerR g)])) w' := fun h0 w' hb => ⟨hb, .inl ⟨h0, rfl⟩⟩
  have hQ2 : kerR g = 0 → ∀ V c rows w', Below w.heap.size w w' → GrF (fun b => w.heap.size ≤ b ∧ b < w'.heap.size) w'.heap.size w' (kerG g) V c rows → KernelQ g w (.returned (.tuple #[.agg #[.slice V g.length c], .int .i64 0])) w' := fun h0 V c rows w' hb hG => ⟨hb, .inr ⟨h0, V, c, rows, rfl, hG⟩⟩
  have hdef : kerR g = if checkG g ≠ 0 then checkG g else if 400 < cntG g then 2 else 0 := rfl
  generalize KernelQ g w = Q at hQ1 hQ2 ⊢
  have hR := fun h0 : checkG g = 0 => right_of h0
  have HG := Lib.hid h
  by_cases hc0 : checkG g = 0
  rotate_left
  · have hr : kerR g = checkG g := by rw [hdef, if_pos hc0]
    rw [hr] at hQ1
    have HQ := Lib.hid (hQ1 hc0)
    have hxb : (checkG g != 0) = true := by rw [bne_iff_ne]; exact hc0
    generalize checkG g = x at HCK HQ hxb
    clear hc0 hQ1 hQ2 hdef hr hR h
    go_enter Try.func12, Try.ntmps12
    go_wp2_with fail
    refine (HCK.out _ (by repeat (first | exact Below.refl _ _ | assumption | refine Below.drew ?_ | refine below_drewN ?_ _ | refine Below.alloc ?_ (by first | omega | (simp; omega) | simp) _ | refine Below.setCell ?_ (by first | omega | (simp; omega) | simp) _))).mono ?_
    rintro e w1 ⟨rfl, hb1⟩
    have hrs1 : Blk w1 (w.heap.size + 1) 24 #[.slice none 0 0] := (blk_at (by simp)).below hb1 (by simp)
    have hw1 : Below w.heap.size w w1 := Below.trans (by repeat (first | exact Below.refl _ _ | assumption | refine Below.drew ?_ | refine below_drewN ?_ _ | refine Below.alloc ?_ (by first | omega | (simp; omega) | simp) _ | refine Below.setCell ?_ (by first | omega | (simp; omega) | simp) _)) (hb1.mono (by first | omega | (simp; omega) | simp))
    have z0 := hrs1.cell 0
    have f0 := hrs1.frozen 0
    simp at z0
    clear hb1 hck
    have q0 : (w1.setCell ⟨w.heap.size + 1, 0, none⟩ (.slice none 0 0)).cell? ⟨w.heap.size + 1, 0, none⟩ = some (.slice none 0 0) := (hrs1.set_ 0 _).cell 0
    go_wp2
    exact bodyPost_ret (v := .tuple #[.agg #[.slice none 0 0], .int .i64 x]) (by simp [results, Try.results12, go_sem, q0]) rfl (HQ.out _ (by repeat (first | exact Below.refl _ _ | assumption | refine Below.drew ?_ | refine below_drewN ?_ _ | refine Below.alloc ?_ (by first | omega | (simp; omega) | simp) _ | refine Below.setCell ?_ (by first | omega | (simp; omega) | simp) _)))
  · have R := hR hc0
    have hten := R.ten
    have hkof : ∀ (j : Nat) (nm : ByteArray) (k' a' b' c' d' : Int) (t' : ByteArray) (ks' : List Ex) (A' : Option Addr) (cp' : Nat) (W : World), Below w.heap.size w W → g[j]? = some (nm, .mk k' a' b' c' d' t' ks') → ExIs w w.heap.size (.mk k' a' b' c' d' t' ks') (exCells k' a' b' c' d' t' A' ks'.length cp') →
        Calls Try.prog 44 #[.agg #[.int .i64 k', .int .u64 a', .int .u64 b', .int .u64 c', .int .u64 d', .string t', .slice A' ks'.length cp']] W (MadeQ (kerE (.mk k' a' b' c' d' t' ks')) W) := fun j nm k' a' b' c' d' t' ks' A' cp' W hW hej hx =>
      kof_any _ (Fit1.of_rt (R.rt _ (List.mem_of_getElem? hej))) _ W (hx.grow hW)
    have hcnt : ∀ (j : Nat) (nm : ByteArray) (k' a' b' c' d' : Int) (t' : ByteArray) (ks' : List Ex) (A' : Option Addr) (cp' : Nat) (W : World), Below w.heap.size w W → g[j]? = some (nm, .mk k' a' b' c' d' t' ks') → ExIs w w.heap.size (.mk k' a' b' c' d' t' ks') (exCells k' a' b' c' d' t' A' ks'.length cp') →
        Calls Try.prog 43 #[.agg #[.int .i64 k', .int .u64 a', .int .u64 b', .int .u64 c', .int .u64 d', .string t', .slice A' ks'.length cp']] W (fun r w' => r = .returned (.int .i64 (cntE (.mk k' a' b' c' d' t' ks'))) ∧ Below W.heap.size W w') := fun j nm k' a' b' c' d' t' ks' A' cp' W hW hej hx =>
      kcount_any _ _ W (hx.grow hW)
    have HKO := Lib.hid hkof
    have HCN := Lib.hid hcnt
    rw [hc0] at HCK
    rw [if_neg (by rw [hc0]; decide)] at hdef
    have HTOT : Hid (((g.drop 0).map fun r => cntE r.2).sum = cntG g) := by exact rfl
    obtain ⟨i0, hi0, hz0, hz1, hz2⟩ := info_parts rule_info
    have HD := Lib.hid hdef
    have HQ1 := Lib.hid hQ1
    have HQ2 := Lib.hid hQ2
    have hgcap := h.cap
    unfold maxLen at hgcap
    clear hkof hcnt hR hc0 R h hdef hQ1 hQ2 hck
    generalize cntG g = tot at HTOT HD
    go_enter Try.func12, Try.ntmps12
    go_wp2_with fail
    refine (HCK.out _ (by repeat (first | exact Below.refl _ _ | assumption | refine Below.drew ?_ | refine below_drewN ?_ _ | refine Below.alloc ?_ (by first | omega | (simp; omega) | simp) _ | refine Below.setCell ?_ (by first | omega | (simp; omega) | simp) _))).mono ?_
    rintro e w1 ⟨rfl, hb1⟩
    have hgx1 : Blk w1 w.heap.size 24 #[.slice A g.length cp] := ((blk_at rfl).alloc _).below hb1 (by first | omega | (simp; omega) | simp)
    have hrs1 : Blk w1 (w.heap.size + 1) 24 #[.slice none 0 0] := (blk_at (by simp)).below hb1 (by simp)
    have hw1 : Below w.heap.size w w1 := Below.trans (by repeat (first | exact Below.refl _ _ | assumption | refine Below.drew ?_ | refine below_drewN ?_ _ | refine Below.alloc ?_ (by first | omega | (simp; omega) | simp) _ | refine Below.setCell ?_ (by first | omega | (simp; omega) | simp) _)) (hb1.mono (by first | omega | (simp; omega) | simp))
    have g0 := hgx1.cell 0
    simp at g0
    have hs1 : w.heap.size + 1 < w1.heap.size := hrs1.lt
    clear hb1
    go_wp2
    go_loopw [5, 7, 20] (fun v _ i wr => ∃ j n : Nat, j ≤ g.length ∧ n ≤ 401 * j ∧ v = .int .i64 n ∧ i = .int .i64 j ∧ Hid (n + ((g.drop j).map fun r => cntE r.2).sum = tot) ∧ Below w1.heap.size w1 wr) (fun _ _ i _ => g.length - (intOf i).toNat)
    case atStart => exact ⟨0, 0, by omega, by omega, rfl, rfl, (by show _ = _; rw [Nat.zero_add]; exact HTOT.out), Below.refl _ _⟩
    case round =>
      obtain ⟨j, n, hj, hn, rfl, rfl, HN, h1r⟩ := hrel
      have hbw : Below w.heap.size w wr := hw1.trans (h1r.mono (by omega))
      have hzw := h1r.size
      by_cases hjn : j < g.length
      · obtain ⟨ad, nm, k', a', b', c', d', t', ks', A', cp', rfl, hab, hej, hnm, hE, hS⟩ := HG.out.rule hjn
        have hcc : Eight wr (ad.add (j * 8)) nm k' a' b' c' d' t' A' ks'.length cp' :=
          have hk := fun (q : Addr) (hq : q.block = (ad.add (j * 8)).block) => hbw.cell (p := q) (by rw [hq, add_block]; omega)
          ⟨(hk _ rfl).trans hS.c0, (hk ⟨_, _, none⟩ rfl).trans hS.c1, (hk ⟨_, _, none⟩ rfl).trans hS.c2, (hk ⟨_, _, none⟩ rfl).trans hS.c3, (hk ⟨_, _, none⟩ rfl).trans hS.c4, (hk ⟨_, _, none⟩ rfl).trans hS.c5, (hk ⟨_, _, none⟩ rfl).trans hS.c6, (hk ⟨_, _, none⟩ rfl).trans hS.c7⟩
        obtain ⟨y0, y1, y2, y3, y4, y5, y6, y7⟩ := hcc
        have had1 : ad.block < wr.heap.size := by omega
        have hjl : (j : Int) < (g.length : Int) := by omega
        have hle := cntE_le (.mk k' a' b' c' d' t' ks')
        have hc1 := fun W hW => HCN.out j nm k' a' b' c' d' t' ks' A' cp' W hW hej hE
        have HN2 : Hid (n + cntE (.mk k' a' b' c' d' t' ks') + ((g.drop (j + 1)).map fun r => cntE r.2).sum = tot) := by
          have h1 := HN.out
          rw [drop_of hej, List.map_cons, List.sum_cons] at h1
          simp only at h1
          show _ = _
          omega
        generalize cntE (.mk k' a' b' c' d' t' ks') = y at HN2 hle hc1
        have HC1 := Lib.hid hc1
        clear hc1 hS hE hej hnm
        go_wp2_with fail
        refine (HC1.out _ (by repeat (first | exact Below.refl _ _ | assumption | refine Below.drew ?_ | refine below_drewN ?_ _ | refine Below.alloc ?_ (by first | omega | (simp; omega) | simp) _ | refine Below.setCell ?_ (by first | omega | (simp; omega) | simp) _))).mono ?_
        rintro e w2 ⟨rfl, hb2⟩
        have h12 : Below w1.heap.size w1 w2 := (h1r.alloc hzw _).trans (hb2.mono (by simp; omega))
        clear hb2
        go_wp2
        go_roundw
        case rel => exact ⟨j + 1, n + y, by omega, by omega, by go_num, by go_num, HN2.out, h12⟩
        case measure => simp [intOf]; omega
      · obtain rfl : j = g.length := by omega
        have hnt : n = tot := by have := HN.out; rw [List.drop_length] at this; simpa using this
        subst hnt
        have hgx2 := hgx1.below h1r hgx1.lt
        have hrs2 := hrs1.below h1r hrs1.lt
        have g1 := hgx2.cell 0
        simp at g1
        clear g0 hgx1 hrs1
        by_cases h400 : 400 < n
        · have hr : kerR g = 2 := by rw [HD.out, if_pos h400]
          have hq := HQ1.out
          rw [hr] at hq
          have HQ := Lib.hid (hq (by decide))
          have z0 := hrs2.cell 0
          have f0 := hrs2.frozen 0
          simp at z0
          have q0 : (wr.setCell ⟨w.heap.size + 1, 0, none⟩ (.slice none 0 0)).cell? ⟨w.heap.size + 1, 0, none⟩ = some (.slice none 0 0) := (hrs2.set_ 0 _).cell 0
          have h4i : (400 : Int) < (n : Int) := by omega
          clear hq hr h400
          go_wp2
          exact bodyPost_ret (v := .tuple #[.agg #[.slice none 0 0], .int .i64 2]) (by simp [results, Try.results12, go_sem, q0]) rfl (HQ.out _ (by repeat (first | exact Below.refl _ _ | assumption | refine Below.drew ?_ | refine below_drewN ?_ _ | refine Below.alloc ?_ (by first | omega | (simp; omega) | simp) _ | refine Below.setCell ?_ (by first | omega | (simp; omega) | simp) _)))
        · have hr : kerR g = 0 := by rw [HD.out, if_neg h400]
          have HQ := Lib.hid (HQ2.out hr)
          have h4i : ((400 : Int) < (n : Int)) = False := by simp; omega
          clear hr h400 HQ1 HQ2 HD
          have hstart : KnI kerE g w wr.heap.size none 0 (fun _ => []) 0 (wr.alloc (.cells #[.slice none 0 0] 24)) :=
            ⟨(by repeat (first | exact Below.refl _ _ | assumption | refine Below.drew ?_ | refine below_drewN ?_ _ | refine Below.alloc ?_ (by first | omega | (simp; omega) | simp) _ | refine Below.setCell ?_ (by first | omega | (simp; omega) | simp) _)), hrs2.alloc _, by omega, blk_at rfl, Rus.nil _ _⟩
          have HST := Lib.hid hstart
          have h1r2 : w1.heap.size ≤ wr.heap.size := hzw
          clear hstart hrs2
          rename World => ws
          have hlt0 : w.heap.size < ws.heap.size := by omega
          go_wp2
          go_loopw [10, 36] (fun _ i wr => ∃ j : Nat, j ≤ g.length ∧ i = .int .i64 j ∧ ∃ V c rows, KnI kerE g w ws.heap.size V c rows j wr) (fun _ i _ => g.length - (intOf i).toNat)
          case atStart => exact ⟨0, by omega, rfl, _, _, _, HST.out⟩
          case round =>
            obtain ⟨j, hj, rfl, V, c, rows, hI⟩ := hrel
            have hbw := hI.bel
            have hnl := hI.out.lt
            by_cases hjn : j < g.length
            · obtain ⟨ad, nm, k', a', b', c', d', t', ks', A', cp', rfl, hab, hej, hnm, hE, hS⟩ := HG.out.rule hjn
              have hcc : Eight wr (ad.add (j * 8)) nm k' a' b' c' d' t' A' ks'.length cp' :=
                have hk := fun (q : Addr) (hq : q.block = (ad.add (j * 8)).block) => hbw.cell (p := q) (by rw [hq, add_block]; omega)
                ⟨(hk _ rfl).trans hS.c0, (hk ⟨_, _, none⟩ rfl).trans hS.c1, (hk ⟨_, _, none⟩ rfl).trans hS.c2, (hk ⟨_, _, none⟩ rfl).trans hS.c3, (hk ⟨_, _, none⟩ rfl).trans hS.c4, (hk ⟨_, _, none⟩ rfl).trans hS.c5, (hk ⟨_, _, none⟩ rfl).trans hS.c6, (hk ⟨_, _, none⟩ rfl).trans hS.c7⟩
              obtain ⟨y0, y1, y2, y3, y4, y5, y6, y7⟩ := hcc
              have had1 : ad.block < wr.heap.size := by omega
              have hjl : (j : Int) < (g.length : Int) := by omega
              have hc1 := fun W hW => HKO.out j nm k' a' b' c' d' t' ks' A' cp' W hW hej hE
              have HC1 := Lib.hid hc1
              have HEJ := Lib.hid hej
              have HNM := Lib.hid hnm
              clear hc1 hS hE hej hnm
              have hC0 : RuC ws.heap.size wr.heap.size #[.slice V j c] #[.string nm, .int .i64 k', .int .u64 a', .int .u64 b', .int .u64 c', .int .u64 d', .string t', .slice A' ks'.length cp'] (wr.alloc (.cells #[.string nm, .int .i64 k', .int .u64 a', .int .u64 b', .int .u64 c', .int .u64 d', .string t', .slice A' ks'.length cp'] 44)) := ⟨hI.out.alloc _, blk_at rfl⟩
              have hI1 := hI.below ((Below.refl _ wr).alloc (Nat.le_refl _) (.cells #[.string nm, .int .i64 k', .int .u64 a', .int .u64 b', .int .u64 c', .int .u64 d', .string t', .slice A' ks'.length cp'] 44))
              have hll : ((g.take j).map fun r => (r.1, kerE r.2)).length = j := by simp; omega
              have hold : ∀ q, (Value.slice V j c).ownBlock = some q → q < wr.heap.size := fun q hq => hI.rus.old q (by rw [hll]; exact hq)
              have hkne : some wr.heap.size ≠ (Value.slice V j c).ownBlock := fun e => by have := hold _ e.symm; omega
              have hone : some (ws.heap.size) ≠ (Value.slice V j c).ownBlock := fun e => by have h1 := hI.rus.own.lt (ws.heap.size) (by rw [hll]; exact e.symm); omega
              have hbase1 : ws.heap.size + 1 ≤ (wr.alloc (.cells #[.string nm, .int .i64 k', .int .u64 a', .int .u64 b', .int .u64 c', .int .u64 d', .string t', .slice A' ks'.length cp'] 44)).heap.size := by simp; omega
              have hold1 : ∀ q, (Value.slice V j c).ownBlock = some q → q < (wr.alloc (.cells #[.string nm, .int .i64 k', .int .u64 a', .int .u64 b', .int .u64 c', .int .u64 d', .string t', .slice A' ks'.length cp'] 44)).heap.size := fun q hq => by have := hold q hq; simp; omega
              clear hold hI
              go_upto_region 16 with fail
              generalize (wr.alloc (.cells #[.string nm, .int .i64 k', .int .u64 a', .int .u64 b', .int .u64 c', .int .u64 d', .string t', .slice A' ks'.length cp'] 44)) = w11 at hC0 hI1 hbase1 hold1 ⊢
              generalize wr.heap.size = kb at hC0 hkne ⊢
              clear y0 y1 y2 y3 y4 y5 y6 y7 had1 hbw
              refine wp_region_l (RuC ws.heap.size kb #[.slice V j c] #[.string nm, .int .i64 k', .int .u64 a', .int .u64 b', .int .u64 c', .int .u64 d', .string t', .slice A' ks'.length cp']) (· == 11) (by kernel_rfl) ?_
              have hC := hC0.below (Below.refl _ _).drew
              have hI := hI1.below (Below.refl _ _).drew
              have hbd : (w11.drew).heap.size = w11.heap.size := rfl
              rw [← hbd] at hbase1 hold1
              generalize w11.drew = wd at hC hI hbase1 hold1 ⊢
              clear hC0 hI1 hbd
              apply L.rd (i := 0) rfl (by kernel_rfl) hC rfl
              · intro W hW
                skip
                unfold readW
                go_simp
                first | rfl | exact ⟨rfl, rfl⟩
              first | simp only [Act.put, List.setIfInBounds_toArray, List.set_cons_succ, List.set_cons_zero] | skip
              apply L.rd (i := 1) rfl (by kernel_rfl) hC rfl
              · intro W hW
                have n0 := hW.out.cell 0
                unfold readW
                go_simp
                first | rfl | exact ⟨rfl, rfl⟩
              first | simp only [Act.put, List.setIfInBounds_toArray, List.set_cons_succ, List.set_cons_zero] | skip
              apply L.rd (i := 2) rfl (by kernel_rfl) hC rfl
              · intro W hW
                skip
                unfold readW
                go_simp
                first | rfl | exact ⟨rfl, rfl⟩
              first | simp only [Act.put, List.setIfInBounds_toArray, List.set_cons_succ, List.set_cons_zero] | skip
              apply L.rd (i := 3) rfl (by kernel_rfl) hC rfl
              · intro W hW
                have n0 := hW.rule.cell 0
                unfold readW
                go_simp
                first | rfl | exact ⟨rfl, rfl⟩
              first | simp only [Act.put, List.setIfInBounds_toArray, List.set_cons_succ, List.set_cons_zero] | skip
              apply L.rd (i := 4) rfl (by kernel_rfl) hC rfl
              · intro W hW
                skip
                unfold readW
                go_simp
                first | rfl | exact ⟨rfl, rfl⟩
              first | simp only [Act.put, List.setIfInBounds_toArray, List.set_cons_succ, List.set_cons_zero] | skip
              apply L.rd (i := 5) rfl (by kernel_rfl) hC rfl
              · intro W hW
                have r1 := hW.rule.cell 1; have r2 := hW.rule.cell 2; have r3 := hW.rule.cell 3; have r4 := hW.rule.cell 4; have r5 := hW.rule.cell 5; have r6 := hW.rule.cell 6; have r7 := hW.rule.cell 7
                unfold readW
                go_simp
                first | rfl | exact ⟨rfl, rfl⟩
              first | simp only [Act.put, List.setIfInBounds_toArray, List.set_cons_succ, List.set_cons_zero] | skip
              apply L.one (i := 6) rfl (by kernel_rfl) rfl
              unfold stepT
              go_simp
              go_at_call 44
              refine (HC1.out _ hI.bel).mono ?_
              rintro e wn ⟨⟨rc, rfl, hF⟩, hbn⟩
              have hC := hC.below hbn
              have hI := hI.below hbn
              have hbase2 := Nat.le_trans hbase1 hbn.size
              clear hbn
              have hrc := ex_one' hF.is
              obtain ⟨k1, a1, b1, c1, d1, t1, A1, n1, cp1, rfl⟩ := Ex.parts _ hF.is
              refine ⟨_, rfl, hC, ?_⟩
              first | simp only [Act.put, List.setIfInBounds_toArray, List.set_cons_succ, List.set_cons_zero] | skip
              apply L.rd (i := 7) rfl (by kernel_rfl) hC rfl
              · intro W hW
                skip
                unfold readW
                go_simp
                first | rfl | exact ⟨rfl, rfl⟩
              first | simp only [Act.put, List.setIfInBounds_toArray, List.set_cons_succ, List.set_cons_zero] | skip
              apply L.one (i := 8) rfl (by kernel_rfl) rfl
              unfold stepT
              go_simp
              have hF1 := (hF.keep (W' := wn.alloc (.cells #[.string nm, .int .i64 k1, .int .u64 a1, .int .u64 b1, .int .u64 c1, .int .u64 d1, .string t1, .slice A1 n1 cp1] 44)) fun p hp => World.cell?_alloc_lt wn _ p hp.2).mono (S' := fun b => wd.heap.size ≤ b ∧ b < (wn.alloc (.cells #[.string nm, .int .i64 k1, .int .u64 a1, .int .u64 b1, .int .u64 c1, .int .u64 d1, .string t1, .slice A1 n1 cp1] 44)).heap.size) (fun b hb => ⟨hb.1, by simp; omega⟩) (hi' := (wn.alloc (.cells #[.string nm, .int .i64 k1, .int .u64 a1, .int .u64 b1, .int .u64 c1, .int .u64 d1, .string t1, .slice A1 n1 cp1] 44)).heap.size) (by simp)
              have hkb : Blk (wn.alloc (.cells #[.string nm, .int .i64 k1, .int .u64 a1, .int .u64 b1, .int .u64 c1, .int .u64 d1, .string t1, .slice A1 n1 cp1] 44)) wn.heap.size 44 #[.string nm, .int .i64 k1, .int .u64 a1, .int .u64 b1, .int .u64 c1, .int .u64 d1, .string t1, .slice A1 n1 cp1] := blk_at rfl
              have hC := hC.below ((Below.refl _ _).alloc (Nat.le_refl _) (.cells #[.string nm, .int .i64 k1, .int .u64 a1, .int .u64 b1, .int .u64 c1, .int .u64 d1, .string t1, .slice A1 n1 cp1] 44))
              have hI := hI.below ((Below.refl _ _).alloc (Nat.le_refl _) (.cells #[.string nm, .int .i64 k1, .int .u64 a1, .int .u64 b1, .int .u64 c1, .int .u64 d1, .string t1, .slice A1 n1 cp1] 44))
              have hbase3 : ws.heap.size + 1 ≤ (wn.alloc (.cells #[.string nm, .int .i64 k1, .int .u64 a1, .int .u64 b1, .int .u64 c1, .int .u64 d1, .string t1, .slice A1 n1 cp1] 44)).heap.size := by simp; omega
              generalize (wn.alloc (.cells #[.string nm, .int .i64 k1, .int .u64 a1, .int .u64 b1, .int .u64 c1, .int .u64 d1, .string t1, .slice A1 n1 cp1] 44)) = wk at hC hI hkb hF1 hbase3 ⊢
              generalize wn.heap.size = rb at hkb ⊢
              clear hF hbase2
              refine ⟨hC, ?_⟩
              apply L.one (i := 9) rfl (by kernel_rfl) rfl
              refine stepT_append_at (.tmp 41) (.tmp 48) 22 rfl (ws.heap.size + 1) 44 i0 _ 8 96 Try.underlying22 hi0 hz0 hz1 hz2 rfl (by decide) (.slice V j c) j (ruF ((g.take j).map fun r => (r.1, kerE r.2)) rows 0) (by simp [Act.eval]) (by have h1 := hI.rus.own; rw [hll] at h1; exact h1) ⟨rb, 0, none⟩ 1 1 (.string nm :: [.int .i64 k1, .int .u64 a1, .int .u64 b1, .int .u64 c1, .int .u64 d1, .string t1, .slice A1 n1 cp1]) (by simp [Act.eval]) rfl (fun i u hu => by rw [cell_add]; exact (hkb.cell i).trans (by rw [List.getElem?_toArray]; exact hu)) (fun u hu => by rcases List.mem_cons.1 hu with rfl | hu; rfl; exact hrc u hu) (by unfold maxLen; omega) (by omega) hbase3 ?_
              intro v' w3 hown hgr hat
              obtain ⟨V3, c3, rfl⟩ := own_form hown
              have hI3 := hI.push HEJ.out hbase1 hold1 HNM.out hF1 hown hgr hat
              have hC := hC.grown hgr hone hkne
              refine ⟨fun _ => hC, ?_⟩
              first | simp only [Act.put, List.setIfInBounds_toArray, List.set_cons_succ, List.set_cons_zero] | skip
              apply L.rd (i := 10) rfl (by kernel_rfl) hC rfl
              · intro W hW
                skip
                unfold readW
                go_simp
                first | rfl | exact ⟨rfl, rfl⟩
              first | simp only [Act.put, List.setIfInBounds_toArray, List.set_cons_succ, List.set_cons_zero] | skip
              have n0 := hC.out.cell 0
              have f0 := hC.out.frozen 0
              apply L.one (i := 11) rfl (by kernel_rfl) rfl
              unfold stepT
              go_simp
              refine L.done (by kernel_rfl) ?_
              have HI3 := Lib.hid hI3
              clear hI hI3 hC hown hgr hkb n0 f0 hat hF1 hold1 hbase1 hbase3 hkne hone hll
              go_wp2
              go_roundw
              case rel => exact ⟨j + 1, by omega, by go_num, _, _, _, HI3.out⟩
              case measure => simp [intOf]; omega
            · obtain rfl : j = g.length := by omega
              have hgr := hI.rus.gr
              rw [List.take_length] at hgr
              have hrs3 := hI.res
              have z0 := hrs3.cell 0
              have f0 := hrs3.frozen 0
              simp at z0
              have o0 : wr.cell? ⟨ws.heap.size, 0, none⟩ = some (.slice V g.length c) := hI.out.cell 0
              have q0 : (wr.setCell ⟨w.heap.size + 1, 0, none⟩ (.slice V g.length c)).cell? ⟨w.heap.size + 1, 0, none⟩ = some (.slice V g.length c) := (hrs3.set_ 0 _).cell 0
              have hsz : (wr.setCell ⟨w.heap.size + 1, 0, none⟩ (.slice V g.length c)).heap.size = wr.heap.size := by simp [World.setCell]
              have hG : GrF (fun b => w.heap.size ≤ b ∧ b < (wr.setCell ⟨w.heap.size + 1, 0, none⟩ (.slice V g.length c)).heap.size) (wr.setCell ⟨w.heap.size + 1, 0, none⟩ (.slice V g.length c)).heap.size (wr.setCell ⟨w.heap.size + 1, 0, none⟩ (.slice V g.length c)) (kerG g) V c rows := by
                rw [hsz]
                exact (hgr.keep fun p hp => World.cell?_setCell_other wr _ p _ (by rintro rfl; have := hp.1; simp at this; omega)).mono (fun b hb => ⟨by omega, hb.2⟩) (Nat.le_refl _)
              have HG2 := Lib.hid hG
              clear hI hgr hG
              go_wp2
              exact bodyPost_ret (v := .tuple #[.agg #[.slice V g.length c], .int .i64 0]) (by simp [results, Try.results12, go_sem, q0]) rfl (HQ.out _ _ _ _ (by repeat (first | exact Below.refl _ _ | assumption | refine Below.drew ?_ | refine below_drewN ?_ _ | refine Below.alloc ?_ (by first | omega | (simp; omega) | simp) _ | refine Below.setCell ?_ (by first | omega | (simp; omega) | simp) _)) HG2.out)
end Go.Proofs.Ytefechceoeeonaa
