/- (*builder).rule, and (*builder).walk where it takes no tree. -/
import Derived.Test.YtkmcnekjimobhaaTwA
import Derived.Test.YtkmcnekjimobhaaTnL
namespace Go.Proofs.Ytkmcnekjimobhaa
open Go.RowKit Go.Maps

theorem BdOk.c0 {c : PC} {bb : Nat} {w : World} (h : BdOk c bb w) : w.cell? ⟨bb, 0, none⟩ = some (.pointer (some ⟨c.P, 0, none⟩)) := h.2.cell 0

set_option maxRecDepth 100000 in
set_option maxHeartbeats 4000000 in
theorem trule_any {c : PC} (F : c.Fit) (Wg : WellG c.g) (h60 : c.s.data.toList.length ≤ 60) {n : Nat} (hW : DoesWalk c n) : DoesTRule c n := by
  intro i p q r bb w hr hev hp hpp hbd
  have hfew := tr_few Wg h60 (List.mem_of_getElem? hr) hp hev
  generalize hKS : trJ c.g c.s.data.toList n (.ex r.2) p = KS at hfew ⊢
  have hi := getElem?_lt hr
  have hok := F.ok
  have hlen := hok.len
  have hsz := hpp.size
  have hBb := hok.Bb
  have hBP := hok.BP
  have hBM := hok.BM
  have hP := hok.P
  have hM := hok.M
  have hi1 : (i : Int) < (c.g.length : Int) := by omega
  have hi0 : (0 : Int) ≤ (i : Int) := by omega
  have hal : Below w.heap.size w ((w.alloc (.cells #[.int .i64 0, .int .i64 0, .int .i64 0, .slice none 0 0] 27)).alloc (.cells #[.int .i64 i, .int .i64 p, .int .i64 0, .slice none 0 0] 27)) := (by repeat (first | exact Below.refl _ _ | assumption | refine Below.drew ?_ | refine below_drewN ?_ _ | refine Below.alloc ?_ (by first | omega | (simp; omega) | simp) _ | refine Below.setCell ?_ (by first | omega | (simp; omega) | simp) _))
  have hpp1 := hpp.below hok hal
  have hbd1 := hbd.keeps hok (Keeps.of_below hal)
  have hT1 : TBx c ((w.alloc (.cells #[.int .i64 0, .int .i64 0, .int .i64 0, .slice none 0 0] 27)).alloc (.cells #[.int .i64 i, .int .i64 p, .int .i64 0, .slice none 0 0] 27)) (w.heap.size + 2) (w.heap.size + 1) i p [] none :=
    ⟨none, 0, [], fun _ => False, rfl, ⟨⟨by omega, by omega, by simp⟩, blk_at (by simp), World.ownsRow_nil _ _ _ _, rfl, fun _ h => h.elim⟩⟩
  have hres1 : Blk ((w.alloc (.cells #[.int .i64 0, .int .i64 0, .int .i64 0, .slice none 0 0] 27)).alloc (.cells #[.int .i64 i, .int .i64 p, .int .i64 0, .slice none 0 0] 27)) w.heap.size 27 #[.int .i64 0, .int .i64 0, .int .i64 0, .slice none 0 0] := (blk_at rfl).alloc _
  have hs1 : ((w.alloc (.cells #[.int .i64 0, .int .i64 0, .int .i64 0, .slice none 0 0] 27)).alloc (.cells #[.int .i64 i, .int .i64 p, .int .i64 0, .slice none 0 0] 27)).heap.size = w.heap.size + 2 := by simp
  have hnl := F.nodes i _ hr
  have hbbl : bb < w.heap.size := hbd.2.lt
  go_enter Try.func46, Try.ntmps46
  go_upto_region 2 with fail
  generalize ((w.alloc (.cells #[.int .i64 0, .int .i64 0, .int .i64 0, .slice none 0 0] 27)).alloc (.cells #[.int .i64 i, .int .i64 p, .int .i64 0, .slice none 0 0] 27)) = w1 at hal hpp1 hbd1 hT1 hres1 hs1 ⊢
  obtain ⟨ad, nm, k', a', b', c', d', t', ks', A', cp', hA, hab, hej, hnm, hE, ⟨e0, e1, e2, e3, e4, e5, e6, e7⟩⟩ := hpp1.gram.rule hi
  obtain rfl : r = (nm, .mk k' a' b' c' d' t' ks') := by rw [hr] at hej; injection hej
  have s0 := hpp1.c0
  rw [hA, hlen] at s0
  have b0 := hbd1.c0
  have hcall := hW (.mk k' a' b' c' d' t' ks') p q _ bb (w.heap.size + 2) (w.heap.size + 1) i p [] none w1 hev hE (F.rt _ (List.mem_of_getElem? hr)) (by dsimp only at hnl; omega) hp hpp1 hbd1 hT1 (by dsimp only at hKS; rw [hKS]; simpa using hfew)
  dsimp only at hKS
  rw [List.nil_append, hKS] at hcall
  unfold exCells at hcall
  have HC := Lib.hid hcall
  have HR := Lib.hid hres1
  have HAL := Lib.hid hal
  have HS1 := Lib.hid hs1
  clear hcall hKS hev hE hW hpp1 hbd1 hT1 hres1 hfew hnl hr hej hal hs1
  go_wp2_with fail
  refine HC.out.mono ?_
  rintro e' w2 ⟨rfl, hpp2, own', ⟨V, cp, xs, S, rfl, hT⟩, hmv, htk⟩
  have hres2 := htk.box HR.out (by decide) (by omega) (by omega) (by omega) (by simp)
  have hbx2 := hT.box
  have hT2 := tree_of_row hT.own hT.kids i p q
  have hs1 := HS1.out
  have hal := HAL.out
  have hsz2 : w.heap.size + 2 ≤ w2.heap.size := by have := htk.size; omega
  have hsep : ∀ b, S b ∨ some b = (Value.slice V KS.length cp).ownBlock → w.heap.size + 2 ≤ b ∧ ∃ cs, Blk w2 b 27 cs := fun b hb => by
    rcases hb with hb | hb
    · exact ⟨(hT.sep b hb).2.1, (hT.sep b hb).2.2⟩
    · refine ⟨(hT.own.lt b hb.symm).1, ?_⟩
      rcases hT.own.2 with ⟨h1, _⟩ | ⟨g, cap, cur, h1, hb', hgg, _⟩
      · rw [h1] at hb; cases hb
      · rw [h1] at hb
        simp only [Value.ownBlock, Option.some.injEq] at hb
        subst hb
        exact ⟨_, hgg⟩
  have hkp : Keeps c w w2 := ⟨htk.os.trans hal.os, htk.tape.trans hal.tape, htk.output.trans hal.output, by omega, fun k h1 h2 h3 h4 => by
    have hx : w1.heap[k]? = w.heap[k]? := hal.block k h1
    exact (htk.blk k (by omega) h2 h3 (by rw [hx]; exact h4) (by omega) (by simp)).trans hx⟩
  have z0 : w2.cell? ⟨w.heap.size + 1, 0, none⟩ = some (.int .i64 i) := hbx2.cell 0
  have z1 : w2.cell? ⟨w.heap.size + 1, 1, none⟩ = some (.int .i64 p) := hbx2.cell 1
  have z2 : w2.cell? ⟨w.heap.size + 1, 2, none⟩ = some (.int .i64 0) := hbx2.cell 2
  have z3 : w2.cell? ⟨w.heap.size + 1, 3, none⟩ = some (.slice V KS.length cp) := hbx2.cell 3
  have f2 := hbx2.frozen 2
  have hres3 := hres2.far (p := ⟨w.heap.size + 1, 2, none⟩) (by show w.heap.size ≠ w.heap.size + 1; omega) (.int .i64 q)
  have yz0 : (w2.setCell ⟨w.heap.size + 1, 2, none⟩ (.int .i64 q)).cell? ⟨w.heap.size, 0, none⟩ = some (.int .i64 0) := hres3.cell 0; have yz1 : (w2.setCell ⟨w.heap.size + 1, 2, none⟩ (.int .i64 q)).cell? ⟨w.heap.size, 1, none⟩ = some (.int .i64 0) := hres3.cell 1; have yz2 : (w2.setCell ⟨w.heap.size + 1, 2, none⟩ (.int .i64 q)).cell? ⟨w.heap.size, 2, none⟩ = some (.int .i64 0) := hres3.cell 2; have yz3 : (w2.setCell ⟨w.heap.size + 1, 2, none⟩ (.int .i64 q)).cell? ⟨w.heap.size, 3, none⟩ = some (.slice none 0 0) := hres3.cell 3; have yf0 := hres3.frozen 0; have yf1 := hres3.frozen 1; have yf2 := hres3.frozen 2; have yf3 := hres3.frozen 3; have ye0 : ((w2.setCell ⟨w.heap.size + 1, 2, none⟩ (.int .i64 q)).setCell ⟨w.heap.size, 0, none⟩ (.int .i64 i)).cell? ⟨w.heap.size, 0, none⟩ = some (.int .i64 i) := (hres3.set_ 0 _).cell 0; have ye1 : (((w2.setCell ⟨w.heap.size + 1, 2, none⟩ (.int .i64 q)).setCell ⟨w.heap.size, 0, none⟩ (.int .i64 i)).setCell ⟨w.heap.size, 1, none⟩ (.int .i64 p)).cell? ⟨w.heap.size, 1, none⟩ = some (.int .i64 p) := ((hres3.set_ 0 _).set_ 1 _).cell 1; have ye2 : ((((w2.setCell ⟨w.heap.size + 1, 2, none⟩ (.int .i64 q)).setCell ⟨w.heap.size, 0, none⟩ (.int .i64 i)).setCell ⟨w.heap.size, 1, none⟩ (.int .i64 p)).setCell ⟨w.heap.size, 2, none⟩ (.int .i64 q)).cell? ⟨w.heap.size, 2, none⟩ = some (.int .i64 q) := (((hres3.set_ 0 _).set_ 1 _).set_ 2 _).cell 2; have ye3 : (((((w2.setCell ⟨w.heap.size + 1, 2, none⟩ (.int .i64 q)).setCell ⟨w.heap.size, 0, none⟩ (.int .i64 i)).setCell ⟨w.heap.size, 1, none⟩ (.int .i64 p)).setCell ⟨w.heap.size, 2, none⟩ (.int .i64 q)).setCell ⟨w.heap.size, 3, none⟩ (.slice V KS.length cp)).cell? ⟨w.heap.size, 3, none⟩ = some (.slice V KS.length cp) := ((((hres3.set_ 0 _).set_ 1 _).set_ 2 _).set_ 3 _).cell 3
  have HPP := Lib.hid (((((hpp2.far hok hbx2 (by decide) (by omega) 2 (.int .i64 q)).far hok hres3 (by decide) (by omega) 0 (.int .i64 i)).far hok (hres3.set_ 0 _) (by decide) (by omega) 1 (.int .i64 p)).far hok ((hres3.set_ 0 _).set_ 1 _) (by decide) (by omega) 2 (.int .i64 q)).far hok (((hres3.set_ 0 _).set_ 1 _).set_ 2 _) (by decide) (by omega) 3 (.slice V KS.length cp))
  have HKP := Lib.hid (((((hkp.far (k := w.heap.size + 1) (by omega) 2 (.int .i64 q)).far (k := w.heap.size) (by omega) 0 (.int .i64 i)).far (k := w.heap.size) (by omega) 1 (.int .i64 p)).far (k := w.heap.size) (by omega) 2 (.int .i64 q)).far (k := w.heap.size) (by omega) 3 (.slice V KS.length cp))
  have hheap : ∀ b, w.heap.size + 2 ≤ b → (((((w2.setCell ⟨w.heap.size + 1, 2, none⟩ (.int .i64 q)).setCell ⟨w.heap.size, 0, none⟩ (.int .i64 i)).setCell ⟨w.heap.size, 1, none⟩ (.int .i64 p)).setCell ⟨w.heap.size, 2, none⟩ (.int .i64 q)).setCell ⟨w.heap.size, 3, none⟩ (.slice V KS.length cp)).heap[b]? = w2.heap[b]? := fun b hb => by
    rw [Below.heap_setCell _ _ _ _ (by simp; omega), Below.heap_setCell _ _ _ _ (by simp; omega), Below.heap_setCell _ _ _ _ (by simp; omega), Below.heap_setCell _ _ _ _ (by simp; omega), Below.heap_setCell _ _ _ _ (by simp; omega)]
  have HTT := Lib.hid (hT2.keep (S' := fun b => S b ∨ some b = (Value.slice V KS.length cp).ownBlock) (fun _ h => h) fun p hp => World.cell?_of_block (hheap _ (hsep _ hp).1))
  have HSP : Hid (∀ b, (S b ∨ some b = (Value.slice V KS.length cp).ownBlock) → w.heap.size ≤ b ∧ ∃ cs, Blk (((((w2.setCell ⟨w.heap.size + 1, 2, none⟩ (.int .i64 q)).setCell ⟨w.heap.size, 0, none⟩ (.int .i64 i)).setCell ⟨w.heap.size, 1, none⟩ (.int .i64 p)).setCell ⟨w.heap.size, 2, none⟩ (.int .i64 q)).setCell ⟨w.heap.size, 3, none⟩ (.slice V KS.length cp)) b 27 cs) := fun b hb => by
    obtain ⟨h1, cs, h2⟩ := hsep b hb
    exact ⟨by omega, cs, (hheap b h1).trans h2⟩
  clear hT hT2 hsep hkp hheap htk hpp2 hmv hres2 hbx2 hres3 HC HR e0 e1 e2 e3 e4 e5 e6 e7 s0 b0 hal hs1
  go_wp2
  exact bodyPost_ret (v := .agg #[.int .i64 i, .int .i64 p, .int .i64 q, .slice V KS.length cp]) (by simp [results, Try.results46, go_sem, ye0, ye1, ye2, ye3]) rfl ⟨HPP.out, HKP.out, V, cp, (fun b => S b ∨ some b = (Value.slice V KS.length cp).ownBlock), rfl, HTT.out, HSP.out⟩

set_option maxRecDepth 100000 in
set_option maxHeartbeats 4000000 in
/-- no tree is taken -/
theorem twalk_none {c : PC} (hok : c.Ok) {k a b d1 d2 : Int} {t : ByteArray} {A : Option Addr} {m cp p q bb base tb : Nat} {r f : Int} {ts : List Tr} {own : Option Nat} {w : World} (hk : k = 1 ∨ k = 10 ∨ k = 11) (hq : q = p) (hpp : PP c w) (hT : TBx c w base tb r f ts own) :
    Calls Try.prog 81 #[.pointer (some ⟨bb, 0, none⟩), .agg #[.int .i64 k, .int .u64 a, .int .u64 b, .int .u64 d1, .int .u64 d2, .string t, .slice A m cp], .int .i64 p, .pointer (some ⟨tb, 3, none⟩)] w (TWalkQ c base tb r f ts own q w) := by
  subst hq
  have hal : Below w.heap.size w (w.alloc (.cells #[.int .i64 k, .int .u64 a, .int .u64 b, .int .u64 d1, .int .u64 d2, .string t, .slice A m cp] 37)) := (by repeat (first | exact Below.refl _ _ | assumption | refine Below.drew ?_ | refine below_drewN ?_ _ | refine Below.alloc ?_ (by first | omega | (simp; omega) | simp) _ | refine Below.setCell ?_ (by first | omega | (simp; omega) | simp) _))
  have HQ : Hid (TWalkQ c base tb r f ts own q w (.returned (.int .i64 q)) (w.alloc (.cells #[.int .i64 k, .int .u64 a, .int .u64 b, .int .u64 d1, .int .u64 d2, .string t, .slice A m cp] 37))) := ⟨rfl, hpp.below hok hal, own, hT.below hok hal, Moved.refl _ _, Tk.of_keeps (Keeps.of_below hal)⟩
  clear hpp hT hal
  rcases hk with rfl | rfl | rfl
  all_goals
    go_enter Try.func81, Try.ntmps81
    go_wp2
    go_ret
    exact HQ.out
set_option maxRecDepth 100000 in
set_option maxHeartbeats 4000000 in
theorem twalk_set {c : PC} (hok : c.Ok) {a b d1 d2 : Int} {t : ByteArray} {A : Option Addr} {m cp p bb base tb : Nat} {r f : Int} {ts : List Tr} {own : Option Nat} {w : World} (hp : p ≤ 1000) (hpp : PP c w) (hT : TBx c w base tb r f ts own) :
    Calls Try.prog 81 #[.pointer (some ⟨bb, 0, none⟩), .agg #[.int .i64 2, .int .u64 a, .int .u64 b, .int .u64 d1, .int .u64 d2, .string t, .slice A m cp], .int .i64 p, .pointer (some ⟨tb, 3, none⟩)] w (TWalkQ c base tb r f ts own (p + 1) w) := by
  have hal : Below w.heap.size w (w.alloc (.cells #[.int .i64 2, .int .u64 a, .int .u64 b, .int .u64 d1, .int .u64 d2, .string t, .slice A m cp] 37)) := (by repeat (first | exact Below.refl _ _ | assumption | refine Below.drew ?_ | refine below_drewN ?_ _ | refine Below.alloc ?_ (by first | omega | (simp; omega) | simp) _ | refine Below.setCell ?_ (by first | omega | (simp; omega) | simp) _))
  have HQ : Hid (TWalkQ c base tb r f ts own (p + 1) w (.returned (.int .i64 ((p : Int) + 1))) (w.alloc (.cells #[.int .i64 2, .int .u64 a, .int .u64 b, .int .u64 d1, .int .u64 d2, .string t, .slice A m cp] 37))) := ⟨rfl, hpp.below hok hal, own, hT.below hok hal, Moved.refl _ _, Tk.of_keeps (Keeps.of_below hal)⟩
  clear hpp hT hal
  go_enter Try.func81, Try.ntmps81
  go_wp2
  go_ret
  exact HQ.out
set_option maxRecDepth 100000 in
set_option maxHeartbeats 4000000 in
theorem twalk_lit {c : PC} (hok : c.Ok) {a b d1 d2 : Int} {t : ByteArray} {A : Option Addr} {m cp p bb base tb : Nat} {r f : Int} {ts : List Tr} {own : Option Nat} {w : World} (hp : p ≤ 1000) (ht : t.size ≤ 1000) (hpp : PP c w) (hT : TBx c w base tb r f ts own) :
    Calls Try.prog 81 #[.pointer (some ⟨bb, 0, none⟩), .agg #[.int .i64 3, .int .u64 a, .int .u64 b, .int .u64 d1, .int .u64 d2, .string t, .slice A m cp], .int .i64 p, .pointer (some ⟨tb, 3, none⟩)] w (TWalkQ c base tb r f ts own (p + t.size) w) := by
  have hal : Below w.heap.size w (w.alloc (.cells #[.int .i64 3, .int .u64 a, .int .u64 b, .int .u64 d1, .int .u64 d2, .string t, .slice A m cp] 37)) := (by repeat (first | exact Below.refl _ _ | assumption | refine Below.drew ?_ | refine below_drewN ?_ _ | refine Below.alloc ?_ (by first | omega | (simp; omega) | simp) _ | refine Below.setCell ?_ (by first | omega | (simp; omega) | simp) _))
  have HQ : Hid (TWalkQ c base tb r f ts own (p + t.size) w (.returned (.int .i64 ((p : Int) + t.size))) (w.alloc (.cells #[.int .i64 3, .int .u64 a, .int .u64 b, .int .u64 d1, .int .u64 d2, .string t, .slice A m cp] 37))) := ⟨rfl, hpp.below hok hal, own, hT.below hok hal, Moved.refl _ _, Tk.of_keeps (Keeps.of_below hal)⟩
  clear hpp hT hal
  go_enter Try.func81, Try.ntmps81
  go_wp2
  go_ret
  exact HQ.out
end Go.Proofs.Ytkmcnekjimobhaa
