/- What cover.Of answers. -/
import Derived.Test.YtphfckihdhmhpaaCoQ
import Derived.Test.YtphfckihdhmhpaaCoN
import Derived.Test.YtphfckihdhmhpaaPkA
import Derived.Laws.EntriesVeiled
namespace Go.Proofs.Ytphfckihdhmhpaa
open Go.RowKit Go.Maps

def natZ (l : List Nat) : List Int := l.map fun (n : Nat) => (n : Int)
theorem mkC_ints (l : List Nat) : mkC l = ints (natZ l) := by unfold mkC ints natZ; rw [List.map_map]; rfl
theorem ints_info : (Try.prog.info? 3).map (fun i => (i.zero, i.size, i.bytes)) = some (some (.int .i64 0), 1, 8) := by kernel_rfl
theorem natZ_rep (n : Nat) : natZ (List.replicate n 0) = List.replicate n 0 := by unfold natZ; rw [List.map_replicate]; rfl
/-- the state in which no mark is set -/
def psM (n : Nat) : PS := { ps0 with marks := List.replicate n 0 }
theorem agreeM (g : List Rl) (s : List UInt8) (n : Nat) : Agree g s (psM n) := fun i p o h => by cases h
theorem boundM (L n : Nat) : Bound L (psM n) := fun i p n h => by cases h
theorem mkA_rep (n i : Nat) : mkA (List.replicate n 0) i = 0 := by
  unfold mkA
  rw [List.getD_eq_getElem?_getD, List.getElem?_replicate]
  split <;> rfl
theorem cov_zero {L : List Ex} {n : Nat} (h : n = L.length) (O : Nat → Prop) : Cov L O (List.replicate n 0) :=
  ⟨by rw [List.length_replicate]; exact h, fun i => by rw [mkA_rep]; omega, fun i x j b _ _ hb => absurd (mkA_rep n b) hb, fun i x _ _ hb => by rw [mkA_rep] at hb; omega, fun i x _ _ hb => by rw [mkA_rep] at hb; omega⟩
/-- what a grammar's first rule leaves of marks -/
theorem cov_first {g : List Rl} {s : List UInt8} {m n : Nat} {o : Option Nat} {σ1 : PS} {r : Rl} (hn : n = (preLs (bodies g)).length) (hr : g[0]? = some r) (h : pk g s true m (.rule 0) 0 (psM n) = some (o, σ1)) :
    Cov (preLs (bodies g)) (fun _ => False) σ1.marks ∧ (o.isSome = true → mkA σ1.marks 0 % 2 = 1) ∧ (o.isSome = false → mkA σ1.marks 0 / 2 % 2 = 1) := by
  cases m with
  | zero => cases h
  | succ m =>
    simp only [pk] at h
    rw [show recall (psM n).seen (0, 0) = none from rfl] at h
    simp only [hr] at h
    cases hq : pk g s true m (.try_ r.2 (firstN g 0)) 0 (psM n) with
    | none => rw [hq] at h; cases h
    | some x =>
      obtain ⟨o', σ'⟩ := x
      rw [hq] at h
      simp only at h
      split at h
      · cases h
      · simp only [Option.some.injEq, Prod.mk.injEq] at h
        obtain ⟨rfl, rfl⟩ := h
        obtain ⟨q1, q2⟩ := rule_nopar hr (fun _ => False)
        obtain ⟨k1, -, k3, k4⟩ := (covers g s m).try_ _ _ 0 _ o' σ' _ hq q1 q2 (cov_zero hn _)
        have h0 : firstN g 0 = 0 := rfl
        rw [h0] at k3 k4
        exact ⟨k1.1, k3, k4⟩
theorem rule_goesM {g : List Rl} (W : WellG g) (s : List UInt8) (n : Nat) {i p : Nat} {r : Rl} (hr : g[i]? = some r) (hp : p ≤ s.length) : ∃ o m σ1, Sem g s r.2 p o ∧ pk g s true m (.rule i) p (psM n) = some (o, σ1) := by
  obtain ⟨k, o, he⟩ := ends (s := s) W hp (W.good (List.mem_of_getElem? hr))
  obtain ⟨m, σ1, h1, h2, _⟩ := goes_rule (hook := true) (fits_of W.right) hp hr he (fun n0 _ o ho σ num hσ => (goes (fits_of W.right) n0).1 r.2 p o (W.right.rt r (List.mem_of_getElem? hr)) hp ho σ num hσ) (agreeM g s n)
  exact ⟨o, m, σ1, ⟨k, he⟩, h1⟩
theorem nodesC_len (g : List Rl) : nodesC g = (preLs (bodies g)).length := by
  rw [preLs_len]
  unfold nodesC bodies
  induction g with
  | nil => rfl
  | cons r g ih => rw [List.map_cons, List.map_cons, nodesAll, List.sum_cons, ih]
/-- the parser that tells cover -/
def PC.told (c : PC) (B ob bo n : Nat) : PC := { c with B := B, ob := ob, bo := bo, hk := true, lim := n, hook := .func (.func 65) #[] #[.pointer (some ⟨bo, 0, none⟩)] }
theorem Par.told {c : PC} {w : World} (hok : c.Ok) (h : Par c w ps0) (hF : c.B ≤ c.F) {B ob bo n : Nat} (hB : B ≤ ob) (hob : ob < c.B) (hbo : bo < c.B) (hne : bo ≠ ob) (hn : n ≤ 1000000000000) (hG : GrIs w B c.g c.A c.cp c.row)
    (h1 : Blk w bo 63 #[.slice (some ⟨ob, 0, none⟩) n n]) (h2 : Blk w ob 3 (mkC (List.replicate n 0)).toArray) :
    (c.told B ob bo n).Ok ∧ Par (c.told B ob bo n) (w.setCell ⟨c.P, 9, none⟩ (c.told B ob bo n).hook) (psM n) := by
  obtain ⟨⟨lv, a1, a2⟩, a3, a4, a5, a6, a7, a8⟩ := h
  have hBP := hok.BP
  have hBM := hok.BM
  have hBb := hok.Bb
  have hM := hok.M
  have hg : w.grownBy (w.setCell ⟨c.P, 9, none⟩ (c.told B ob bo n).hook) (some c.P) := ⟨rfl, rfl, rfl, by simp [World.setCell], fun k hk hne => Below.heap_setCell w ⟨c.P, 9, none⟩ _ k (by rintro rfl; exact hne rfl)⟩
  have ho : lv.ownBlock = none ∨ lv.ownBlock ≠ some c.P := by
    cases hv : lv.ownBlock with
    | none => exact .inl rfl
    | some k => exact .inr (fun e => by injection e with e; have := (a2.lt k hv).1; have := hok.P; omega)
  refine ⟨⟨by show B ≤ c.P; omega, by show B ≤ c.M ∧ B ≤ ob; omega, by show B ≤ c.base; omega, hok.P, by show c.M < c.base ∧ ob < c.base; omega, hok.F, hok.ne1, ⟨hok.ne2.1, by show c.F ≠ ob; omega⟩, ⟨hok.ne3.1, by show ob ≠ c.P; omega⟩, hok.len, hok.fst, hn, fun _ => by show ob ≠ c.M ∧ bo ≠ ob ∧ bo ≠ c.P ∧ bo ≠ c.M ∧ bo < c.base; omega⟩, ⟨⟨lv, a1.set_ 9 _, a2.kept hg ho⟩, a3.kept hg (fun e => hok.ne3.1 (by injection e)), fun j x hj => ?_, by show c.base ≤ _; simpa [World.setCell] using a5, hG.on ((Below.refl _ _).setCell (by show B ≤ c.P; omega) _), a7.of_eq rfl rfl, fun _ => ⟨h1.far (by show bo ≠ c.P; omega) _, h2.far (by show ob ≠ c.P; omega) _, List.length_replicate .., fun m hm => ?_⟩⟩⟩
  · rw [← a4 j x hj]
    exact World.cell?_of_block (Below.heap_setCell w ⟨c.P, 9, none⟩ _ c.F hok.ne1)
  · have := List.eq_of_mem_replicate hm
    omega
/-- what cover.Of leaves -/
def CoverQ (g : List Rl) (s : ByteArray) (w : World) (e : Ending) (w' : World) : Prop :=
  ∃ V c l, e = .returned (.tuple #[.slice V l.length c, .int .i64 (lookG g s)]) ∧ Reads w' w'.heap.size 1 V l.length (ints (natZ l)) ∧ l.length ≤ c ∧ c ≤ maxLen ∧ Below w.heap.size w w' ∧ (∀ ad : Addr, V = some ad → w.heap.size ≤ ad.block) ∧ (lookG g s ≠ 0 → l = []) ∧
    (lookG g s = 0 → ∃ r o m σ1, g[0]? = some r ∧ Sem g s.data.toList r.2 0 o ∧ pk g s.data.toList true m (.rule 0) 0 (psM (nodesC g)) = some (o, σ1) ∧ l = σ1.marks ∧ Cov (preLs (bodies g)) (fun _ => False) l ∧ (o.isSome = true → mkA l 0 % 2 = 1) ∧ (o.isSome = false → mkA l 0 / 2 % 2 = 1))

set_option maxRecDepth 100000 in
set_option maxHeartbeats 2000000 in
theorem cover_any {g : List Rl} {A : Option Addr} {cp : Nat} {row : Nat → List Value} {w : World} (h : GrIs w w.heap.size g A cp row) (hwf : ∀ r ∈ g, WfE r.2) (s : ByteArray) :
    Calls Try.prog 30 #[.agg #[.slice A g.length cp], .string s] w (CoverQ g s w) := by
  have hmf : ∀ (fn : Fn) (first cap : Array Value) (w : World), (Instr.makeFunc fn first cap).run Try.prog w = .ok (.func fn first cap) w := fun _ _ _ _ => rfl
  have hlk := fun W (hW : Below w.heap.size w W) => mlook_any ((h.on hW).more hW.size) s
  have HLK := Lib.hid hlk
  have HG := Lib.hid h
  have HWF := Lib.hid hwf
  clear hlk h hwf
  by_cases hl0 : lookG g s = 0
  · obtain ⟨W, h60⟩ := look_zero hl0
    have h10 := W.right.ten
    have hpos := W.right.pos
    obtain ⟨r, hr⟩ : ∃ r, g[0]? = some r := ⟨_, List.getElem?_eq_getElem hpos⟩
    have hn120 : nodesC g ≤ 120 := W.right.nodes
    have hnl := nodesC_len g
    have hsl : s.data.toList.length = s.size := size_list s
    obtain ⟨o, m, σ1, hsem, hpk⟩ := rule_goesM W s.data.toList (nodesC g) hr (Nat.zero_le _)
    have hcv := cov_first hnl hr hpk
    have hgn := fun W' (hW : Below w.heap.size w W') => gnodesC_any ((HG.out.on hW).more hW.size) W.right
    have hnew := fun W' (hW : Below w.heap.size w W') => new_any ((HG.out.on hW).more hW.size) (by omega) h10 (sixty_of W.right) s
    obtain ⟨i0, hi, hz0, hz1, hz2⟩ := info_parts ints_info
    have hmk := fun W => made_run Try.underlying63 hi hz0 .i64 .i64 (n := nodesC g) (c := nodesC g) (Nat.le_refl _) (by rw [hz2]; omega) (by omega) W
    rw [hz1] at hmk
    have hzr : madeCells (Value.int .i64 0).cells (nodesC g * 1) = (mkC (List.replicate (nodesC g) 0)).toArray := by
      rw [mkC_ints, natZ_rep, ← zeros_toList]
      rfl
    rw [hzr] at hmk
    have hQ : ∀ V c l w', Reads w' w'.heap.size 1 V l.length (ints (natZ l)) → l.length ≤ c → c ≤ maxLen → Below w.heap.size w w' → (∀ ad : Addr, V = some ad → w.heap.size ≤ ad.block) → l = σ1.marks → CoverQ g s w (.returned (.tuple #[.slice V l.length c, .int .i64 0])) w' := fun V c l w' a1 a2 a3 a4 a5 a6 =>
      ⟨V, c, l, by rw [hl0], a1, a2, a3, a4, a5, fun hh => absurd hl0 hh, fun _ => ⟨r, o, m, σ1, hr, hsem, hpk, a6, by rw [a6]; exact hcv⟩⟩
    rw [hl0] at HLK
    generalize CoverQ g s w = Q at hQ ⊢
    have hfn : ∀ i rr, g[i]? = some rr → firstN g i + nodes rr.2 ≤ nodesC g := fun i rr hrr => by
      rw [firstN_is, hnl, preLs_len]
      exact nodesAll_take (by unfold bodies; rw [List.getElem?_map, hrr]; rfl)
    generalize hN : nodesC g = N at hn120 hpk hgn hmk hfn
    have HQ := Lib.hid hQ
    have HGN := Lib.hid hgn
    have HNEW := Lib.hid hnew
    have HPK := Lib.hid hpk
    have HWW := Lib.hid W
    have HFN := Lib.hid hfn
    clear hQ hgn hnew hpk hcv hsem hr hl0 W hN hnl hzr hz0 hz1 hz2 hi hfn
    go_enter Try.func30, Try.ntmps30
    go_wp2_with fail
    refine (HLK.out _ (by repeat (first | exact Below.refl _ _ | assumption | refine Below.drew ?_ | refine below_drewN ?_ _ | refine Below.alloc ?_ (by first | omega | (simp; omega) | simp) _ | refine Below.setCell ?_ (by first | omega | (simp; omega) | simp) _))).mono ?_
    rintro e w1 ⟨rfl, hb1⟩
    have hgx : Blk w1 w.heap.size 24 #[.slice A g.length cp] := (blk_at rfl).below hb1 (by simp)
    have hw1 : Below w.heap.size w w1 := ((Below.refl _ w).alloc (Nat.le_refl _) _).trans (hb1.mono (by simp))
    have g0 : w1.cell? ⟨w.heap.size, 0, none⟩ = some (.slice A g.length cp) := hgx.cell 0
    clear hb1
    go_wp2_with fail
    refine (HGN.out _ hw1).mono ?_
    rintro e w2 ⟨rfl, hb2⟩
    have hgx2 := hgx.below hb2 hgx.lt
    have hw2 := hw1.trans (hb2.mono hw1.size)
    have g2 : w2.cell? ⟨w.heap.size, 0, none⟩ = some (.slice A g.length cp) := hgx2.cell 0
    have hgl := hgx2.lt
    clear hb2 hgx hw1 g0
    go_upto_region 6 with fail
    have hO : Blk ((w2.alloc (.cells (mkC (List.replicate N 0)).toArray 3)).alloc (.cells #[.slice (some ⟨w2.heap.size, 0, none⟩) N N] 63)) w2.heap.size 3 (mkC (List.replicate N 0)).toArray := (blk_at rfl).alloc _
    have hbo : Blk ((w2.alloc (.cells (mkC (List.replicate N 0)).toArray 3)).alloc (.cells #[.slice (some ⟨w2.heap.size, 0, none⟩) N N] 63)) (w2.heap.size + 1) 63 #[.slice (some ⟨w2.heap.size, 0, none⟩) N N] := blk_at (by simp)
    have hg3 := (hgx2.alloc (.cells (mkC (List.replicate N 0)).toArray 3)).alloc (.cells #[.slice (some ⟨w2.heap.size, 0, none⟩) N N] 63)
    have hw3 : Below w.heap.size w ((w2.alloc (.cells (mkC (List.replicate N 0)).toArray 3)).alloc (.cells #[.slice (some ⟨w2.heap.size, 0, none⟩) N N] 63)) := (hw2.alloc (by omega) _).alloc (by simp; omega) _
    generalize ((w2.alloc (.cells (mkC (List.replicate N 0)).toArray 3)).alloc (.cells #[.slice (some ⟨w2.heap.size, 0, none⟩) N N] 63)) = w3 at hO hbo hg3 hw3 ⊢
    generalize w2.heap.size = ob at hO hbo hgl hmk ⊢
    have g3 : w3.cell? ⟨w.heap.size, 0, none⟩ = some (.slice A g.length cp) := hg3.cell 0
    clear hgx2 hw2 g2 hmk
    go_wp2_with fail
    refine (HNEW.out _ hw3).mono ?_
    rintro e w4 ⟨c, hcg, hcs, hch, ⟨hhk, hlm, hBF, hcA, hccp, hcrow⟩, rfl, hok, hpar, hb4, hcB⟩
    have hO4 := hO.below hb4 hO.lt
    have hbo4 := hbo.below hb4 hbo.lt
    have hol := hO.lt
    have hbl := hbo.lt
    have hw4 := hw3.trans (hb4.mono hw3.size)
    have n9 : w4.cell? ⟨c.P, 9, none⟩ = some .nilFunc := by rw [← hch]; exact hpar.c9
    have f9 := hpar.fr 9
    have hG4 : GrIs w4 w.heap.size c.g c.A c.cp c.row := by rw [hcg, hcA, hccp, hcrow]; exact HG.out.on hw4
    obtain ⟨hok', hpar'⟩ := Par.told hok hpar hBF (B := w.heap.size) (ob := ob) (bo := ob + 1) (n := N) (by omega) (by omega) (by omega) (by omega) (by omega) hG4 hbo4 hO4
    have hBP := hok.BP
    have hBM := hok.BM
    have hBb := hok.Bb
    have hPs := hpar.size
    have hPl := hok.P
    have F : (c.told w.heap.size ob (ob + 1) N).Fit := ⟨hok', .inr ⟨rfl, rfl⟩, by show c.g.length ≤ 1000; rw [hcg]; omega, by show c.s.data.toList.length ≤ 1000; rw [hcs, hsl]; omega, fun r hr => by
      have hr : r ∈ c.g := hr
      rw [hcg] at hr
      show RtW c.g r.2
      rw [hcg]
      exact ⟨HWW.out.right.rt r hr, HWF.out r hr⟩, fun i rr hrr => by
      have hrr : c.g[i]? = some rr := hrr
      show firstN c.g i + nodes rr.2 ≤ N
      rw [hcg] at hrr ⊢
      exact HFN.out i rr hrr⟩
    have hru := (does F m).2.2 0 0 (psM N) (o, σ1) _ (by show pk c.g c.s.data.toList true m _ _ _ = _; rw [hcg, hcs]; exact HPK.out) (by show 0 < c.g.length; rw [hcg]; exact hpos) (Nat.zero_le _) (boundM _ _) hpar'
    have hw5 : Below w.heap.size w (w4.setCell ⟨c.P, 9, none⟩ (.func (.func 65) #[] #[.pointer (some ⟨ob + 1, 0, none⟩)])) := hw4.setCell (by show w.heap.size ≤ c.P; omega) _
    have HRU := Lib.hid hru
    have HOK := Lib.hid hok'
    have HW5 := Lib.hid hw5
    clear hru hb4 hpar' hok' F hG4 hO4 hbo4 hpar hO hbo hg3 g3 hw3 hw5
    go_wp2_with fail
    refine HRU.out.mono ?_
    rintro e w7 ⟨⟨v, rfl, hv⟩, q1, q2⟩
    obtain ⟨b1, b2, b3, b4⟩ := q1.marks rfl
    have n7 : w7.cell? ⟨ob + 1, 0, none⟩ = some (.slice (some ⟨ob, 0, none⟩) N N) := b1.cell 0
    have hb3 : σ1.marks.length = N := b3
    have b2' : Blk w7 ob 3 (mkC σ1.marks).toArray := b2
    have hW7 : Below w.heap.size w w7 := HW5.out.trans (q2.below HW5.out.size HOK.out.BP HOK.out.BM HOK.out.Bb)
    have hfin := HQ.out (some ⟨ob, 0, none⟩) N σ1.marks w7 (reads_block b2' (by rw [← mkC_ints]) (by simp [mkC]) b2'.lt) (by omega) (by unfold maxLen; omega) hW7 (fun ad hV => by injection hV with hV; subst hV; show w.heap.size ≤ ob; omega) rfl
    rw [hb3] at hfin
    have HF := Lib.hid hfin
    clear hfin q1 q2 b1 b2 b2' b3 b4 hb3 hW7 hv
    go_wp2
    exact HF.out
  · have hxb : (lookG g s != 0) = true := by rw [bne_iff_ne]; exact hl0
    have HQ : Hid (∀ w', Below w.heap.size w w' → CoverQ g s w (.returned (.tuple #[.slice none 0 0, .int .i64 (lookG g s)])) w') := fun w' hb => ⟨none, 0, [], rfl, Reads.none_, Nat.le_refl _, by unfold maxLen; omega, hb, fun ad h => (by cases h), fun _ => rfl, fun h => absurd h hl0⟩
    generalize CoverQ g s w = Q at HQ ⊢
    generalize lookG g s = x at hxb HLK HQ
    clear hl0
    go_enter Try.func30, Try.ntmps30
    go_wp2_with fail
    refine (HLK.out _ (by repeat (first | exact Below.refl _ _ | assumption | refine Below.drew ?_ | refine below_drewN ?_ _ | refine Below.alloc ?_ (by first | omega | (simp; omega) | simp) _ | refine Below.setCell ?_ (by first | omega | (simp; omega) | simp) _))).mono ?_
    rintro e w1 ⟨rfl, hb1⟩
    have hw1 : Below w.heap.size w w1 := ((Below.refl _ w).alloc (Nat.le_refl _) _).trans (hb1.mono (by simp))
    clear hb1
    go_wp2
    exact HQ.out _ hw1
end Go.Proofs.Ytphfckihdhmhpaa
