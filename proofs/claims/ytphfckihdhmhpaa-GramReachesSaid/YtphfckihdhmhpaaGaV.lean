/- gram.Reach's closure: a visit of the graph. -/
import Derived.Test.YtphfckihdhmhpaaGaR
import Derived.Test.YtphfckihdhmhpaaQSpw
import Derived.Deep.DeepCutAuto
namespace Go.Proofs.Ytphfckihdhmhpaa
open Go.RowKit

/-- nothing but one block is other -/
structure OneW (ob : Nat) (w w' : World) : Prop where
  os : w'.os = w.os
  tape : w'.tape = w.tape
  output : w'.output = w.output
  size : w.heap.size ≤ w'.heap.size
  block : ∀ b, b < w.heap.size → b ≠ ob → w'.heap[b]? = w.heap[b]?
section
variable {ob : Nat} {a w w' : World}
theorem OneW.of_below (h : Below w.heap.size w w') : OneW ob w w' := ⟨h.os, h.tape, h.output, h.size, fun b hb _ => h.block b hb⟩
theorem OneW.trans (h : OneW ob a w) (k : OneW ob w w') : OneW ob a w' :=
  ⟨k.os.trans h.os, k.tape.trans h.tape, k.output.trans h.output, Nat.le_trans h.size k.size, fun b hb hn => (k.block b (Nat.lt_of_lt_of_le hb h.size) hn).trans (h.block b hb hn)⟩
theorem OneW.set_ (w : World) (i : Nat) (u : Value) : OneW ob w (w.setCell ⟨ob, i, none⟩ u) :=
  ⟨rfl, rfl, rfl, by simp [World.setCell], fun b _ hn => Below.heap_setCell w ⟨ob, i, none⟩ u b hn⟩
theorem OneW.below {B : Nat} (h : OneW ob w w') (hB : B ≤ ob) (hw : B ≤ w.heap.size) : Below B w w' := ⟨h.os, h.tape, h.output, h.size, fun b hb => h.block b (by omega) (by omega)⟩
theorem Blk.oneW {g : Nat} {t : TypeId} {cs : Array Value} (h : Blk w g t cs) (k : OneW ob w w') (hn : g ≠ ob) : Blk w' g t cs := (k.block g h.lt hn).trans h
end
def bls (l : List Bool) : List Value := l.map Value.bool
theorem bls_set (l : List Bool) (i : Nat) (b : Bool) : (bls l).toArray.setIfInBounds i (.bool b) = (bls (l.set i b)).toArray := by
  unfold bls
  rw [List.setIfInBounds_toArray, List.map_set]
theorem bls_at {l : List Bool} {i : Nat} {b : Bool} (h : l[i]? = some b) : (bls l).toArray[i]? = some (.bool b) := by
  unfold bls
  rw [List.getElem?_toArray, List.getElem?_map, h]
  rfl
/-- what the closure of gram.Reach captured -/
structure VisC (w : World) (n : Nat) (A : Option Addr) (cp ob bo bg bv : Nat) : Prop where
  o : Blk w bo 25 #[.slice (some ⟨ob, 0, none⟩) n n]
  g : Blk w bg 24 #[.slice A n cp]
  v : Blk w bv 104 #[.func (.func 52) #[] #[.pointer (some ⟨bo, 0, none⟩), .pointer (some ⟨bg, 0, none⟩), .pointer (some ⟨bv, 0, none⟩)]]
  oo : bo ≠ ob
  og : bg ≠ ob
  ov : bv ≠ ob
theorem VisC.on {w w' : World} {n : Nat} {A : Option Addr} {cp ob bo bg bv : Nat} (h : VisC w n A cp ob bo bg bv) (k : OneW ob w w') : VisC w' n A cp ob bo bg bv :=
  ⟨h.o.oneW k h.oo, h.g.oneW k h.og, h.v.oneW k h.ov, h.oo, h.og, h.ov⟩
theorem VisC.drew {w : World} {n : Nat} {A : Option Addr} {cp ob bo bg bv : Nat} (h : VisC w n A cp ob bo bg bv) : VisC w.drew n A cp ob bo bg bv := ⟨h.o.drew, h.g.drew, h.v.drew, h.oo, h.og, h.ov⟩
theorem cell_blk {w : World} {g : Nat} {t : TypeId} {cs : Array Value} (h : Blk w g t cs) {p : Addr} (hp : p.block = g) {v : Value} (hc : w.cell? p = some v) : cs[p.off]? = some v := by
  unfold World.cell? at hc
  rw [hp, show w.heap[g]? = some (.cells cs t (0, 0)) from h] at hc
  simp only at hc
  split at hc
  · cases hc
  · exact hc
/-- strings do not lie in a block of bools -/
theorem Reads.oneS {w w' : World} {B ob n : Nat} {A : Option Addr} {ls : List ByteArray} {o : List Bool} {t : TypeId} (h : Reads w B 1 A n (ls.map Value.string)) (hO : Blk w ob t (bls o).toArray) (k : OneW ob w w') (hB : B ≤ w.heap.size) : Reads w' B 1 A n (ls.map Value.string) :=
  ⟨h.len, fun hn => by
    obtain ⟨ad, e, hab, hc⟩ := h.lies hn
    have hl : 0 < ls.length := by have := h.len; simp at this; omega
    have hne : ad.block ≠ ob := fun e => by
      have h0 : (ls.map Value.string)[0]? = some (.string ls[0]) := by rw [List.getElem?_map, List.getElem?_eq_getElem hl]; rfl
      have h1 := cell_blk hO (by rw [add_block]; exact e) (hc 0 _ h0)
      rw [List.getElem?_toArray, bls, List.getElem?_map, Option.map_eq_some_iff] at h1
      obtain ⟨b, _, hb⟩ := h1
      cases hb
    exact ⟨ad, e, hab, fun j u hu => (World.cell?_of_block (k.block _ (by rw [add_block]; omega) (by rw [add_block]; exact hne))).trans (hc j u hu)⟩⟩
theorem sucG_of {g : List Rl} {i : Nat} {nm : ByteArray} {e : Ex} (h : g[i]? = some (nm, e)) : sucG g i = (refsE e).map fun s => (fnd g s.data.toList).toNat := by
  unfold sucG
  rw [h]

set_option maxRecDepth 100000 in
set_option maxHeartbeats 4000000 in
theorem visit_any {g : List Rl} {A : Option Addr} {cp : Nat} {row : Nat → List Value} (hck : checkG g = 0) (B ob bo bg bv : Nat) (hB : B ≤ ob) :
    ∀ (f : Nat) (o : List Bool) (i : Nat) (w : World), GrIs w B g A cp row → VisC w g.length A cp ob bo bg bv → Blk w ob 4 (bls o).toArray → o.length = g.length → i < g.length → o.count false ≤ f →
    Calls Try.prog 52 #[.int .i64 i, .pointer (some ⟨bo, 0, none⟩), .pointer (some ⟨bg, 0, none⟩), .pointer (some ⟨bv, 0, none⟩)] w fun e w' => e = .returned (.tuple #[]) ∧ Blk w' ob 4 (bls (vis (sucG g) f o i)).toArray ∧ OneW ob w w' := by
  intro f
  induction f with
  | zero =>
    intro o i w hG hV hO hl hi hc
    have ho : o[i]? = some true := cnt_zero (by omega) (by omega)
    have g0 := hV.o.cell 0
    have g1 : w.cell? ⟨ob, i, none⟩ = some (.bool true) := (hO.cell i).trans (bls_at ho)
    have hin : (i : Int) < (g.length : Int) := by omega
    have hi0 : (0 : Int) ≤ (i : Int) := by omega
    clear hG hV hc
    go_enter Try.func52, Try.ntmps52
    go_wp2
    (try simp only [Exit.inBlock, Exit.then]); refine bodyPost_ret (results_none rfl _ _ _) rfl ?_
    exact ⟨rfl, hO, OneW.of_below (Below.refl _ _)⟩
  | succ f ih =>
    intro o i w hG hV hO hl hi hc
    have hin : (i : Int) < (g.length : Int) := by omega
    have hi0 : (0 : Int) ≤ (i : Int) := by omega
    have g0 := hV.o.cell 0
    cases hb : o[i]'(by omega) with
    | true =>
      have ho : o[i]? = some true := by rw [List.getElem?_eq_getElem (by omega), hb]
      have g1 : w.cell? ⟨ob, i, none⟩ = some (.bool true) := (hO.cell i).trans (bls_at ho)
      have HE : Hid (vis (sucG g) (f + 1) o i = o) := by
        show _ = _
        rw [vis, if_pos ho]
      clear hG hV hc hb ih ho
      go_enter Try.func52, Try.ntmps52
      go_wp2
      (try simp only [Exit.inBlock, Exit.then]); refine bodyPost_ret (results_none rfl _ _ _) rfl ?_
      exact ⟨rfl, by rw [HE.out]; exact hO, OneW.of_below (Below.refl _ _)⟩
    | false =>
      have ho : o[i]? = some false := by rw [List.getElem?_eq_getElem (by omega), hb]
      have g1 : w.cell? ⟨ob, i, none⟩ = some (.bool false) := (hO.cell i).trans (bls_at ho)
      have f1 := hO.frozen i
      have HE : Hid (vis (sucG g) (f + 1) o i = (sucG g i).foldl (fun o s => vis (sucG g) f o s) (o.set i true)) := by
        show _ = _
        rw [vis, if_neg (by rw [ho]; simp)]
      have hc1 : (o.set i true).count false ≤ f := by have := cnt_set ho; omega
      have hl1 : (o.set i true).length = g.length := by rw [List.length_set]; exact hl
      have hO1 : Blk (w.setCell ⟨ob, i, none⟩ (.bool true)) ob 4 (bls (o.set i true)).toArray := by rw [← bls_set]; exact hO.set_ i _
      have hW1 : OneW ob w (w.setCell ⟨ob, i, none⟩ (.bool true)) := OneW.set_ w i _
      have hBw : B ≤ w.heap.size := by have := hO.lt; omega
      have hV1 := hV.on hW1
      have hG1 := hG.on (hW1.below hB hBw)
      obtain ⟨ad, nm, k', a', b', c', d', t', ks', A', cp', rfl, hab, hej, hnm, hE, ⟨e0, e1, e2, e3, e4, e5, e6, e7⟩⟩ := hG1.rule hi
      have hsu := sucG_of hej
      have h60 : checkE (.mk k' a' b' c' d' t' ks') = 0 := (right_of hck).body _ (List.mem_of_getElem? hej)
      have hkn : ∀ s ∈ refsE (.mk k' a' b' c' d' t' ks'), 0 ≤ fnd g s.data.toList := fun s hs => fnd_known hck (List.mem_of_getElem? hej) hs
      have hrl := refsC_len (.mk k' a' b' c' d' t' ks')
      have hrf := refs_any _ _ _ (hE.keep (by have := hW1.size; omega : B ≤ (w.setCell ⟨ob, i, none⟩ (.bool true)).heap.size) fun _ _ => rfl)
      unfold exCells at hrf
      unfold refsC at hrl
      rw [if_pos h60] at hrl
      unfold RefsQ at hrf
      simp only [h60, if_true] at hrf
      generalize refsE (.mk k' a' b' c' d' t' ks') = ls at hrf hrl hkn hsu
      have n0 := hV1.o.cell 0
      have n1 := hV1.g.cell 0
      have HRF := Lib.hid hrf
      have HKN := Lib.hid hkn
      have HSU := Lib.hid hsu
      have HG := Lib.hid hG
      have HV1 := Lib.hid hV1
      have HO1 := Lib.hid hO1
      have HW1 := Lib.hid hW1
      have HC := Lib.hid hck
      have HIH := Lib.hid ih
      clear hrf hkn hsu hG hV hV1 hO1 hW1 hE hG1 hej hck ih hb ho h60 hc
      go_enter Try.func52, Try.ntmps52
      go_wp2_with fail
      refine HRF.out.mono ?_
      rintro e w1 ⟨A2, n2, cp2, ls', rfl, hls, hrd, hb1⟩
      subst ls'
      have hn2 : ls.length = n2 := by have := hrd.len; simpa using this
      have hW2 : OneW ob w w1 := HW1.out.trans (OneW.of_below hb1)
      have hV2 := HV1.out.on (OneW.of_below (ob := ob) hb1)
      have hO2 := HO1.out.below hb1 HO1.out.lt
      have hm2 : n2 ≤ 9223372036854775807 := by omega
      have HF0 : Hid (((ls.drop 0).map fun s => (fnd g s.data.toList).toNat).foldl (fun o s => vis (sucG g) f o s) (o.set i true) = vis (sucG g) (f + 1) o i) := by
        show _ = _
        rw [HE.out, HSU.out, List.drop_zero]
      have HRD := Lib.hid hrd
      have HW2 := Lib.hid hW2
      have HO2 := Lib.hid hO2
      have HV2 := Lib.hid hV2
      have hs1 := hb1.size
      clear HSU HE HRF HO1 HV1 HW1 hrd hW2 hO2 hV2 hb1 e0 e1 e2 e3 e4 e5 e6 e7 g0 g1 f1 n0 n1 hO
      go_wp2
      go_loopw [8, 28] (fun _ zi wr => ∃ (q : Nat) (oq : List Bool), q ≤ n2 ∧ zi = .int .i64 q ∧ oq.length = g.length ∧ oq.count false ≤ f ∧ Hid (((ls.drop q).map fun s => (fnd g s.data.toList).toNat).foldl (fun o s => vis (sucG g) f o s) oq = vis (sucG g) (f + 1) o i) ∧ Hid (Blk wr ob 4 (bls oq).toArray) ∧ Hid (OneW ob w1 wr)) (fun _ zi _ => n2 - (intOf zi).toNat)
      case atStart => exact ⟨0, o.set i true, by omega, rfl, hl1, hc1, HF0, HO2, OneW.of_below (Below.refl _ _)⟩
      case round =>
        obtain ⟨q, oq, hq, rfl, hql, hqc, HF, HO, HW⟩ := hrel
        by_cases hqn : q < n2
        · obtain ⟨ad2, s, rfl, hab2, hsj, hcs⟩ := reads_str (HRD.out.oneS HO2.out HW.out (Nat.le_refl _)) hqn
          have HSJ := Lib.hid (drop_of hsj)
          obtain ⟨y, hy, hyl⟩ : ∃ y : Nat, fnd g s.data.toList = (y : Int) ∧ y < g.length := by
            have h0 := HKN.out s (List.mem_of_getElem? hsj)
            have h1 := (fndFrom_le g s.data.toList 0).2
            exact ⟨(fnd g s.data.toList).toNat, by omega, by unfold fnd at *; omega⟩
          have HF2 : Hid (((ls.drop (q + 1)).map fun s => (fnd g s.data.toList).toNat).foldl (fun o s => vis (sucG g) f o s) (vis (sucG g) f oq y) = vis (sucG g) (f + 1) o i) := by
            show _ = _
            rw [← HF.out, HSJ.out, List.map_cons, List.foldl_cons, hy]
            rfl
          have hvb := vis_basic (sucG g) f oq y
          have hvl : (vis (sucG g) f oq y).length = g.length := hvb.1.trans hql
          have hvc : (vis (sucG g) f oq y).count false ≤ f := Nat.le_trans (cnt_le hvb.1 hvb.2) hqc
          have hWr := HW2.out.trans HW.out
          have hVr := HV2.out.on HW.out
          have hfd := fun W (hW : OneW ob wr W) => find_any ((HG.out.on ((hWr.trans hW).below hB hBw)).more (by have := (hWr.trans hW).size; omega)) s
          rw [hy] at hfd
          have HFD := Lib.hid hfd
          have HWR := Lib.hid hWr
          clear hfd hsj HF hvb hWr hy
          have had2 : ad2.block < w1.heap.size := hab2
          go_upto_region 6 with fail
          refine wp_region_l (fun W => VisC W g.length (some ad) cp ob bo bg bv) (fun i => i == 4) (by kernel_rfl) ?_
          have hC := hVr.drew
          have hwd : OneW ob wr wr.drew := OneW.of_below (Below.refl _ _).drew
          have hod := HO.out.drew
          clear hVr
          generalize wr.drew = wd at hC hwd hod ⊢
          apply L.rdt (i := 0) rfl (by kernel_rfl) hC rfl
          · intro W hW
            have n0 := hW.v.cell 0
            unfold readW
            go_simp
            first | rfl | exact ⟨rfl, rfl⟩
          first | simp only [Act.put, List.setIfInBounds_toArray, List.set_cons_succ, List.set_cons_zero] | skip
          apply L.rdt (i := 1) rfl (by kernel_rfl) hC rfl
          · intro W hW
            have n0 := hW.g.cell 0
            unfold readW
            go_simp
            first | rfl | exact ⟨rfl, rfl⟩
          first | simp only [Act.put, List.setIfInBounds_toArray, List.set_cons_succ, List.set_cons_zero] | skip
          apply L.rdt (i := 2) rfl (by kernel_rfl) hC rfl
          · intro W hW
            skip
            unfold readW
            go_simp
            first | rfl | exact ⟨rfl, rfl⟩
          first | simp only [Act.put, List.setIfInBounds_toArray, List.set_cons_succ, List.set_cons_zero] | skip
          apply L.one (i := 3) rfl (by kernel_rfl) rfl
          unfold stepT
          go_simp
          refine (HFD.out _ hwd).mono ?_
          rintro e w3 ⟨rfl, hb3⟩
          have hC := hC.on (OneW.of_below (ob := ob) hb3)
          refine ⟨_, rfl, hC, ?_⟩
          have hw3 := hwd.trans (OneW.of_below hb3)
          have ho3 := hod.below hb3 hod.lt
          clear hb3
          first | simp only [Act.put, List.setIfInBounds_toArray, List.set_cons_succ, List.set_cons_zero] | skip
          apply L.one (i := 4) rfl (by kernel_rfl) rfl
          unfold stepT
          go_simp
          refine (HIH.out oq y w3 (HG.out.on ((HWR.out.trans hw3).below hB hBw)) hC ho3 hql hyl hqc).mono ?_
          rintro e w4 ⟨rfl, ho4, hw4⟩
          refine ⟨_, rfl, ?_⟩
          first | simp only [Act.put, List.setIfInBounds_toArray, List.set_cons_succ, List.set_cons_zero] | skip
          refine L.done (by kernel_rfl) ?_
          have hw4 := hw3.trans hw4
          have HO4 := Lib.hid ho4
          have HW4 := Lib.hid (HW.out.trans hw4)
          clear hC hwd hod hw3 ho3 ho4 hw4 HO HW
          go_wp2
          go_roundw
          case rel => exact ⟨q + 1, _, by omega, by go_num, hvl, hvc, HF2, HO4, HW4⟩
          case measure => simp [intOf]; omega
        · obtain rfl : q = n2 := by omega
          have HE2 : Hid (oq = vis (sucG g) (f + 1) o i) := by
            show _ = _
            rw [← HF.out, ← hn2, List.drop_length]
            rfl
          go_wp2
          go_end0
          exact ⟨rfl, by rw [← HE2.out]; exact HO.out, HW2.out.trans HW.out⟩
end Go.Proofs.Ytphfckihdhmhpaa
