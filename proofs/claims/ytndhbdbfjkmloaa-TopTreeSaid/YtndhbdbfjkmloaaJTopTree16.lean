/- tree.Of: what it answers. What event.Build holds in memory: a tree comes to the kids of what is open. What event.Build holds in memory behind a tree that came to the kids of what is open. Lists of events are compared (slices.Equal). What event.Of answers, of trees of up to 2.7e12 nodes (printed out of Tr3 by genbig.py). How high a tree is, how many kids a node has; what event.Build holds on the way to a tree is no more: plain. -/
import Derived.Test.YtndhbdbfjkmloaaJTopTree15
import Derived.Test.YtndhbdbfjkmloaaJTopTree12
import Derived.Test.YtndhbdbfjkmloaaJTopTree0
import Derived.Laws.StructEq
import Derived.BigQuiet
import Derived.Deep.QuietTactic
namespace Go.Proofs.Ytndhbdbfjkmloaa
open Go.RowKit Go.Maps

def zeroTr : Value := .agg #[.int .i64 0, .int .i64 0, .int .i64 0, .slice none 0 0]
/-- what tree.Of answers -/
def TofQ (g : List Rl) (s : ByteArray) (w : World) (e : Ending) (w' : World) : Prop := Below w.heap.size w w' ∧
  ((lookG g s ≠ 0 ∧ e = .returned (.tuple #[zeroTr, .int .i64 (lookG g s)])) ∨
   (lookG g s = 0 ∧ (∃ r, g[0]? = some r ∧ Sem g s.data.toList r.2 0 none) ∧ e = .returned (.tuple #[zeroTr, .int .i64 11])) ∨
   (lookG g s = 0 ∧ ∃ (r : Rl) (n q : Nat) (V : Option Addr) (cp : Nat) (S : Nat → Prop), g[0]? = some r ∧ evJ g s.data.toList n (.ex r.2) 0 = some (some q) ∧
     e = .returned (.tuple #[.agg #[.int .i64 0, .int .i64 0, .int .i64 q, .slice V (trJ g s.data.toList n (.ex r.2) 0).length cp], .int .i64 0]) ∧
     TrIs w' S (.mk 0 0 q (trJ g s.data.toList n (.ex r.2) 0)) [.int .i64 0, .int .i64 0, .int .i64 q, .slice V (trJ g s.data.toList n (.ex r.2) 0).length cp] ∧ ∀ b, S b → w.heap.size ≤ b ∧ b < w'.heap.size))

theorem run_out0 (b : Bool) (z : Int) (w : World) : Sem.run Try.prog (Instr.field 48 (.agg #[.bool b, .int .i64 z]) 0) w = .ok (.bool b) w := by kernel_rfl

set_option maxRecDepth 100000 in
set_option maxHeartbeats 8000000 in
theorem tof_any {g : List Rl} {A : Option Addr} {cp : Nat} {row : Nat → List Value} {w : World} (h : GrIs w w.heap.size g A cp row) (hwf : ∀ r ∈ g, WfE r.2) (s : ByteArray) :
    Calls Try.prog 7 #[.agg #[.slice A g.length cp], .string s] w (TofQ g s w) := by
  have hlk := fun W (hW : Below w.heap.size w W) => mlook_any ((h.on hW).more hW.size) s
  have HLK := Lib.hid hlk
  have HG := Lib.hid h
  have HWF := Lib.hid hwf
  clear hlk h hwf
  generalize hQ : TofQ g s w = Q
  have HQ := Lib.hid hQ
  clear hQ
  by_cases hl0 : lookG g s = 0
  · obtain ⟨W, h60⟩ := look_zero hl0
    rw [hl0] at HLK
    have HL0 := Lib.hid hl0
    have HW := Lib.hid W
    have h10 := W.right.ten
    have hpos := W.right.pos
    clear hl0 W
    obtain ⟨r, hr⟩ : ∃ r, g[0]? = some r := ⟨_, List.getElem?_eq_getElem hpos⟩
    have hsl : s.data.toList.length = s.size := size_list s
    obtain ⟨n, o, hev⟩ := ends (s := s.data.toList) HW.out (p := 0) (by omega) (HW.out.good (List.mem_of_getElem? hr))
    obtain ⟨m, σ1, hpk, hag, _⟩ := goes_rule (hook := false) (fits_of HW.out.right) (by omega) hr hev (fun n0 _ o ho σ num hσ => (goes (fits_of HW.out.right) n0).1 r.2 0 o (HW.out.right.rt r (List.mem_of_getElem? hr)) (by omega) ho σ num hσ) (agree0 g s.data.toList)
    have hbd := (pk_bound _ _ _ _ _ _ _ _ _ hpk (by omega) (bound0 _)).2
    have hnew := fun W (hW : Below w.heap.size w W) => new_any ((HG.out.on hW).more hW.size) hpos h10 (sixty_of HW.out.right) s
    have HN := Lib.hid hnew
    have HPK := Lib.hid hpk
    have HEV := Lib.hid hev
    have HAG := Lib.hid hag
    have HBD := Lib.hid hbd
    have HR := Lib.hid hr
    clear hnew hpk hev hag hbd hr
    go_enter Try.func7, Try.ntmps7
    go_wp2_with fail
    refine (HLK.out _ (by repeat (first | exact Below.refl _ _ | assumption | refine Below.drew ?_ | refine below_drewN ?_ _ | refine Below.alloc ?_ (by first | omega | (simp; omega) | simp) _ | refine Below.setCell ?_ (by first | omega | (simp; omega) | simp) _))).mono ?_
    rintro e w1 ⟨rfl, hb1⟩
    have hw1 : Below w.heap.size w w1 := (((Below.refl _ w).alloc (Nat.le_refl _) _).alloc (by simp) _).trans (hb1.mono (by simp; omega))
    have hgx : Blk w1 w.heap.size 35 #[.slice A g.length cp] := ((blk_at rfl).alloc _).below hb1 (by simp; omega)
    have hox : Blk w1 (w.heap.size + 1) 38 #[.int .i64 0, .int .i64 0, .int .i64 0, .slice none 0 0] := (blk_at (by simp)).below hb1 (by simp)
    have g0 : w1.cell? ⟨w.heap.size, 0, none⟩ = some (.slice A g.length cp) := hgx.cell 0
    clear hb1
    go_wp2_with fail
    refine (HN.out _ hw1).mono ?_
    rintro e w2 ⟨c, hcg, hcs, hch, ⟨hhk, hlm, -⟩, rfl, hok, hpar, hb2, hcB⟩
    have hw2 : Below w.heap.size w w2 := hw1.trans (hb2.mono hw1.size)
    have hox2 := hox.below hb2 hox.lt
    have F : c.Fit := PC.fit (by rw [hcg]; exact HW.out) (by rw [hcs]; exact h60) hok hhk hlm hch (by rw [hcg]; exact HWF.out)
    have hal : Below w2.heap.size w2 (w2.alloc (.cells #[.pointer (some ⟨c.P, 0, none⟩)] 59)) := (by repeat (first | exact Below.refl _ _ | assumption | refine Below.drew ?_ | refine below_drewN ?_ _ | refine Below.alloc ?_ (by first | omega | (simp; omega) | simp) _ | refine Below.setCell ?_ (by first | omega | (simp; omega) | simp) _))
    have hru := (does F m).2.2 0 0 ps0 (o, σ1) (w2.alloc (.cells #[.pointer (some ⟨c.P, 0, none⟩)] 59)) (by rw [hcg, hcs, hhk]; exact HPK.out) (by rw [hcg]; exact hpos) (by omega) (bound0 _) (hpar.below hok hal)
    have HRU := Lib.hid hru
    have hzw := hw1.size
    have hxl := hox.lt
    have hBP := hok.BP
    have hBM := hok.BM
    have hBb := hok.Bb
    have hPs := hpar.size
    have hPb := hok.P
    have hMb := hok.M
    have hz12 := hb2.size
    have hbb : Blk (w2.alloc (.cells #[.pointer (some ⟨c.P, 0, none⟩)] 59)) w2.heap.size 59 #[.pointer (some ⟨c.P, 0, none⟩)] := blk_at rfl
    have hox3 := hox2.alloc (.cells #[.pointer (some ⟨c.P, 0, none⟩)] 59)
    have hw3 : Below w.heap.size w (w2.alloc (.cells #[.pointer (some ⟨c.P, 0, none⟩)] 59)) := hw2.alloc (by omega) _
    have hs3 : w2.heap.size < (w2.alloc (.cells #[.pointer (some ⟨c.P, 0, none⟩)] 59)).heap.size := by simp
    clear hru hb2 hal hpar hox2 hw2
    go_upto_region 5 with fail
    generalize (w2.alloc (.cells #[.pointer (some ⟨c.P, 0, none⟩)] 59)) = w3 at HRU hbb hox3 hw3 hs3 ⊢
    generalize w2.heap.size = bb at hbb hPs hz12 hs3 ⊢
    have b0 := hbb.cell 0
    go_wp2_with fail
    refine HRU.out.mono ?_
    rintro e w4 ⟨⟨v, rfl, hv⟩, q1, q2⟩
    obtain ⟨b, z, hbn⟩ : ∃ (b : Bool) (z : Int), outV v = .agg #[.bool b, .int .i64 z] := by cases v <;> exact ⟨_, _, rfl⟩
    have hbo : b = o.isSome := by
      simp only at hv
      rw [hv]
      cases v with
      | none => simp [outV] at hbn; exact hbn.1
      | some k => simp [outV] at hbn; exact hbn.1
    have hox4 : Blk w4 (w.heap.size + 1) 38 #[.int .i64 0, .int .i64 0, .int .i64 0, .slice none 0 0] := q2.box hox3 (by decide) (by omega) (by omega)
    have hbb4 := q2.box hbb (by decide) (by omega) (by omega)
    have hw4 : Below w.heap.size w w4 := hw3.trans (q2.below (by omega) (by omega) (by omega) (by omega))
    have hpp4 : PP c w4 := ⟨σ1, q1, by rw [hcg, hcs]; exact HAG.out, by rw [hcs]; exact HBD.out⟩
    have hs4 := q2.size
    have hrf := run_out0
    rw [hbn]
    clear q1 q2 HRU hbn hv hbb hox3 b0
    cases o with
    | none =>
      obtain rfl : b = false := hbo
      have yz0 : w4.cell? ⟨w.heap.size + 1, 0, none⟩ = some (.int .i64 0) := hox4.cell 0; have yz1 : w4.cell? ⟨w.heap.size + 1, 1, none⟩ = some (.int .i64 0) := hox4.cell 1; have yz2 : w4.cell? ⟨w.heap.size + 1, 2, none⟩ = some (.int .i64 0) := hox4.cell 2; have yz3 : w4.cell? ⟨w.heap.size + 1, 3, none⟩ = some (.slice none 0 0) := hox4.cell 3; have yf0 := hox4.frozen 0; have yf1 := hox4.frozen 1; have yf2 := hox4.frozen 2; have yf3 := hox4.frozen 3; have ye0 : (w4.setCell ⟨w.heap.size + 1, 0, none⟩ (.int .i64 0)).cell? ⟨w.heap.size + 1, 0, none⟩ = some (.int .i64 0) := (hox4.set_ 0 _).cell 0; have ye1 : ((w4.setCell ⟨w.heap.size + 1, 0, none⟩ (.int .i64 0)).setCell ⟨w.heap.size + 1, 1, none⟩ (.int .i64 0)).cell? ⟨w.heap.size + 1, 1, none⟩ = some (.int .i64 0) := ((hox4.set_ 0 _).set_ 1 _).cell 1; have ye2 : (((w4.setCell ⟨w.heap.size + 1, 0, none⟩ (.int .i64 0)).setCell ⟨w.heap.size + 1, 1, none⟩ (.int .i64 0)).setCell ⟨w.heap.size + 1, 2, none⟩ (.int .i64 0)).cell? ⟨w.heap.size + 1, 2, none⟩ = some (.int .i64 0) := (((hox4.set_ 0 _).set_ 1 _).set_ 2 _).cell 2; have ye3 : ((((w4.setCell ⟨w.heap.size + 1, 0, none⟩ (.int .i64 0)).setCell ⟨w.heap.size + 1, 1, none⟩ (.int .i64 0)).setCell ⟨w.heap.size + 1, 2, none⟩ (.int .i64 0)).setCell ⟨w.heap.size + 1, 3, none⟩ (.slice none 0 0)).cell? ⟨w.heap.size + 1, 3, none⟩ = some (.slice none 0 0) := ((((hox4.set_ 0 _).set_ 1 _).set_ 2 _).set_ 3 _).cell 3
      have HF : Hid (∀ W', Below w.heap.size w W' → Q (.returned (.tuple #[.agg #[.int .i64 0, .int .i64 0, .int .i64 0, .slice none 0 0], .int .i64 11])) W') := fun W' hb => HQ.out ▸ ⟨hb, .inr (.inl ⟨HL0.out, ⟨r, HR.out, n, HEV.out⟩, rfl⟩)⟩
      clear HQ hpp4 hbb4 F
      go_wp2
      exact bodyPost_ret (v := .tuple #[.agg #[.int .i64 0, .int .i64 0, .int .i64 0, .slice none 0 0], .int .i64 11]) (by simp [results, Try.results7, go_sem, ye0, ye1, ye2, ye3]) rfl (HF.out _ (by repeat (first | exact Below.refl _ _ | assumption | refine Below.drew ?_ | refine below_drewN ?_ _ | refine Below.alloc ?_ (by first | omega | (simp; omega) | simp) _ | refine Below.setCell ?_ (by first | omega | (simp; omega) | simp) _)))
    | some q =>
      obtain rfl : b = true := hbo
      have htr := trule_any F (by rw [hcg]; exact HW.out) (by rw [hcs]; omega) (twalks F (by rw [hcg]; exact HW.out) (by rw [hcs]; omega) n) 0 0 q r bb w4 (by rw [hcg]; exact HR.out) (by rw [hcg, hcs]; exact HEV.out) (by omega) hpp4 ⟨hPs, hbb4⟩
      rw [hcg, hcs] at htr
      have HTR := Lib.hid htr
      clear htr
      go_wp2_with fail
      refine HTR.out.mono ?_
      rintro e w5 ⟨hpp5, hk5, V, cv, S, rfl, htr, hsp⟩
      have hox5 := hk5.box hox4 (by decide) (by omega) (by omega)
      have hw5 : Below w.heap.size w w5 := hw4.trans (hk5.below (by omega) (by omega) (by omega) (by omega))
      generalize hKS : trJ g s.data.toList n (.ex r.2) 0 = KS at htr ⊢
      have yz0 : w5.cell? ⟨w.heap.size + 1, 0, none⟩ = some (.int .i64 0) := hox5.cell 0; have yz1 : w5.cell? ⟨w.heap.size + 1, 1, none⟩ = some (.int .i64 0) := hox5.cell 1; have yz2 : w5.cell? ⟨w.heap.size + 1, 2, none⟩ = some (.int .i64 0) := hox5.cell 2; have yz3 : w5.cell? ⟨w.heap.size + 1, 3, none⟩ = some (.slice none 0 0) := hox5.cell 3; have yf0 := hox5.frozen 0; have yf1 := hox5.frozen 1; have yf2 := hox5.frozen 2; have yf3 := hox5.frozen 3; have ye0 : (w5.setCell ⟨w.heap.size + 1, 0, none⟩ (.int .i64 0)).cell? ⟨w.heap.size + 1, 0, none⟩ = some (.int .i64 0) := (hox5.set_ 0 _).cell 0; have ye1 : ((w5.setCell ⟨w.heap.size + 1, 0, none⟩ (.int .i64 0)).setCell ⟨w.heap.size + 1, 1, none⟩ (.int .i64 0)).cell? ⟨w.heap.size + 1, 1, none⟩ = some (.int .i64 0) := ((hox5.set_ 0 _).set_ 1 _).cell 1; have ye2 : (((w5.setCell ⟨w.heap.size + 1, 0, none⟩ (.int .i64 0)).setCell ⟨w.heap.size + 1, 1, none⟩ (.int .i64 0)).setCell ⟨w.heap.size + 1, 2, none⟩ (.int .i64 q)).cell? ⟨w.heap.size + 1, 2, none⟩ = some (.int .i64 q) := (((hox5.set_ 0 _).set_ 1 _).set_ 2 _).cell 2; have ye3 : ((((w5.setCell ⟨w.heap.size + 1, 0, none⟩ (.int .i64 0)).setCell ⟨w.heap.size + 1, 1, none⟩ (.int .i64 0)).setCell ⟨w.heap.size + 1, 2, none⟩ (.int .i64 q)).setCell ⟨w.heap.size + 1, 3, none⟩ (.slice V KS.length cv)).cell? ⟨w.heap.size + 1, 3, none⟩ = some (.slice V KS.length cv) := ((((hox5.set_ 0 _).set_ 1 _).set_ 2 _).set_ 3 _).cell 3
      have hheap : ∀ b, w.heap.size + 1 ≠ b → ((((w5.setCell ⟨w.heap.size + 1, 0, none⟩ (.int .i64 0)).setCell ⟨w.heap.size + 1, 1, none⟩ (.int .i64 0)).setCell ⟨w.heap.size + 1, 2, none⟩ (.int .i64 q)).setCell ⟨w.heap.size + 1, 3, none⟩ (.slice V KS.length cv)).heap[b]? = w5.heap[b]? := fun b hb => by
        rw [Below.heap_setCell _ _ _ _ (Ne.symm hb), Below.heap_setCell _ _ _ _ (Ne.symm hb), Below.heap_setCell _ _ _ _ (Ne.symm hb), Below.heap_setCell _ _ _ _ (Ne.symm hb)]
      have HT := Lib.hid (htr.keep (S' := S) (fun _ h => h) fun p hp => World.cell?_of_block (hheap _ (by have := (hsp _ hp).1; omega)))
      have HF : Hid (∀ W', W' = ((((w5.setCell ⟨w.heap.size + 1, 0, none⟩ (.int .i64 0)).setCell ⟨w.heap.size + 1, 1, none⟩ (.int .i64 0)).setCell ⟨w.heap.size + 1, 2, none⟩ (.int .i64 q)).setCell ⟨w.heap.size + 1, 3, none⟩ (.slice V KS.length cv)) → Below w.heap.size w W' → Q (.returned (.tuple #[.agg #[.int .i64 0, .int .i64 0, .int .i64 q, .slice V KS.length cv], .int .i64 0])) W') := fun W' he hb => HQ.out ▸ ⟨hb, .inr (.inr ⟨HL0.out, r, n, q, V, cv, S, HR.out, HEV.out, by rw [hKS], by rw [hKS, he]; exact HT.out, fun b hb => by
        obtain ⟨h1, cs, h2⟩ := hsp b hb
        rw [he]
        have := h2.lt
        exact ⟨by omega, by simpa [World.setCell] using this⟩⟩)⟩
      clear HQ hpp4 hbb4 F HT htr hsp hk5 hpp5 hheap hKS HTR
      go_wp2
      exact bodyPost_ret (v := .tuple #[.agg #[.int .i64 0, .int .i64 0, .int .i64 q, .slice V KS.length cv], .int .i64 0]) (by simp [results, Try.results7, go_sem, ye0, ye1, ye2, ye3]) rfl (HF.out _ rfl (by repeat (first | exact Below.refl _ _ | assumption | refine Below.drew ?_ | refine below_drewN ?_ _ | refine Below.alloc ?_ (by first | omega | (simp; omega) | simp) _ | refine Below.setCell ?_ (by first | omega | (simp; omega) | simp) _)))
  · have hxb : (lookG g s != 0) = true := by rw [bne_iff_ne]; exact hl0
    have HF : Hid (∀ W', Below w.heap.size w W' → Q (.returned (.tuple #[.agg #[.int .i64 0, .int .i64 0, .int .i64 0, .slice none 0 0], .int .i64 (lookG g s)])) W') := fun W' hb => HQ.out ▸ ⟨hb, .inl ⟨hl0, rfl⟩⟩
    generalize lookG g s = x at HLK HF hxb
    clear hl0 HQ
    go_enter Try.func7, Try.ntmps7
    go_wp2_with fail
    refine (HLK.out _ (by repeat (first | exact Below.refl _ _ | assumption | refine Below.drew ?_ | refine below_drewN ?_ _ | refine Below.alloc ?_ (by first | omega | (simp; omega) | simp) _ | refine Below.setCell ?_ (by first | omega | (simp; omega) | simp) _))).mono ?_
    rintro e w1 ⟨rfl, hb1⟩
    have hw1 : Below w.heap.size w w1 := (((Below.refl _ w).alloc (Nat.le_refl _) _).alloc (by simp) _).trans (hb1.mono (by simp; omega))
    have hox : Blk w1 (w.heap.size + 1) 38 #[.int .i64 0, .int .i64 0, .int .i64 0, .slice none 0 0] := (blk_at (by simp)).below hb1 (by simp)
    have yz0 : w1.cell? ⟨w.heap.size + 1, 0, none⟩ = some (.int .i64 0) := hox.cell 0; have yz1 : w1.cell? ⟨w.heap.size + 1, 1, none⟩ = some (.int .i64 0) := hox.cell 1; have yz2 : w1.cell? ⟨w.heap.size + 1, 2, none⟩ = some (.int .i64 0) := hox.cell 2; have yz3 : w1.cell? ⟨w.heap.size + 1, 3, none⟩ = some (.slice none 0 0) := hox.cell 3; have yf0 := hox.frozen 0; have yf1 := hox.frozen 1; have yf2 := hox.frozen 2; have yf3 := hox.frozen 3; have ye0 : (w1.setCell ⟨w.heap.size + 1, 0, none⟩ (.int .i64 0)).cell? ⟨w.heap.size + 1, 0, none⟩ = some (.int .i64 0) := (hox.set_ 0 _).cell 0; have ye1 : ((w1.setCell ⟨w.heap.size + 1, 0, none⟩ (.int .i64 0)).setCell ⟨w.heap.size + 1, 1, none⟩ (.int .i64 0)).cell? ⟨w.heap.size + 1, 1, none⟩ = some (.int .i64 0) := ((hox.set_ 0 _).set_ 1 _).cell 1; have ye2 : (((w1.setCell ⟨w.heap.size + 1, 0, none⟩ (.int .i64 0)).setCell ⟨w.heap.size + 1, 1, none⟩ (.int .i64 0)).setCell ⟨w.heap.size + 1, 2, none⟩ (.int .i64 0)).cell? ⟨w.heap.size + 1, 2, none⟩ = some (.int .i64 0) := (((hox.set_ 0 _).set_ 1 _).set_ 2 _).cell 2; have ye3 : ((((w1.setCell ⟨w.heap.size + 1, 0, none⟩ (.int .i64 0)).setCell ⟨w.heap.size + 1, 1, none⟩ (.int .i64 0)).setCell ⟨w.heap.size + 1, 2, none⟩ (.int .i64 0)).setCell ⟨w.heap.size + 1, 3, none⟩ (.slice none 0 0)).cell? ⟨w.heap.size + 1, 3, none⟩ = some (.slice none 0 0) := ((((hox.set_ 0 _).set_ 1 _).set_ 2 _).set_ 3 _).cell 3
    have hzw := hw1.size
    clear hb1
    go_wp2
    exact bodyPost_ret (v := .tuple #[.agg #[.int .i64 0, .int .i64 0, .int .i64 0, .slice none 0 0], .int .i64 x]) (by simp [results, Try.results7, go_sem, ye0, ye1, ye2, ye3]) rfl (HF.out _ (by repeat (first | exact Below.refl _ _ | assumption | refine Below.drew ?_ | refine below_drewN ?_ _ | refine Below.alloc ?_ (by first | omega | (simp; omega) | simp) _ | refine Below.setCell ?_ (by first | omega | (simp; omega) | simp) _)))
end Go.Proofs.Ytndhbdbfjkmloaa
namespace Go.Proofs.Ytndhbdbfjkmloaa
open Go.RowKit

structure BldTop (w : World) (base : Nat) (r f : Int) (ks : List Tr) (st : List Fr) (V : Option Addr) (m cp : Nat) (ys : List Value) (A : Option Addr) (c : Nat) (kxs : List Value) (used : List Nat) (S : Nat → Prop) : Prop where
  cnt : m = st.length + 1
  own : w.ownsRow base 38 4 (.slice V m cp) m (ys ++ [.int .i64 r, .int .i64 f, .int .i64 0, .slice A ks.length c])
  kown : w.ownsRow base 38 4 (.slice A ks.length c) ks.length kxs
  kids : KidsAre w S ks kxs
  stack : StackIs w S base st ys used
  nodup : ((Value.slice A ks.length c).ownBlock.toList ++ used).Nodup
  ne : ∀ b ∈ (Value.slice A ks.length c).ownBlock.toList ++ used, some b ≠ (Value.slice V m cp).ownBlock
  sep : ∀ b, S b → b < w.heap.size ∧ b ∉ (Value.slice A ks.length c).ownBlock.toList ++ used ∧ some b ≠ (Value.slice V m cp).ownBlock
  low : ∀ b, S b → base ≤ b

theorem BldMem.top {w : World} {base : Nat} {r f : Int} {ks : List Tr} {st : List Fr} {V : Option Addr} {m cp : Nat} {xs : List Value} {used : List Nat} {S : Nat → Prop} (h : BldMem w base ((r, f, ks) :: st) V m cp xs used S) :
    ∃ ys A c kxs used', xs = ys ++ [.int .i64 r, .int .i64 f, .int .i64 0, .slice A ks.length c] ∧ BldTop w base r f ks st V m cp ys A c kxs used' S := by
  obtain ⟨hm, hown, ⟨ys, A, c, kxs, used', rfl, h1, h2, rfl, h3⟩, hnd, hne, hsep, hlow⟩ := h
  exact ⟨ys, A, c, kxs, used', rfl, hm, hown, h1, h2, h3, hnd, hne, hsep, hlow⟩

theorem BldTop.kid {w w2 : World} {base : Nat} {r f : Int} {ks : List Tr} {st : List Fr} {V : Option Addr} {m cp : Nat} {ys : List Value} {A : Option Addr} {c : Nat} {kxs : List Value} {used : List Nat} {S : Nat → Prop}
    (h : BldTop w base r f ks st V m cp ys A c kxs used S) {t : Tr} {tc : List Value} (ht : TrIs w S t tc) {g1 cap1 : Nat} (hat : (Value.slice A ks.length c).ownBlock = some g1 ∨ w.heap.size ≤ g1)
    (hk : w2.ownsRow base 38 4 (.slice (some ⟨g1, 0, none⟩) (ks.length + 1) cap1) (ks.length + 1) (kxs ++ tc))
    (ho : w2.ownsRow base 38 4 (.slice V m cp) m (ys ++ [.int .i64 r, .int .i64 f, .int .i64 0, .slice (some ⟨g1, 0, none⟩) (ks.length + 1) cap1]))
    (hsz : w.heap.size ≤ w2.heap.size) (hkeep : ∀ b, b < w.heap.size → some b ≠ (Value.slice V m cp).ownBlock → some b ≠ (Value.slice A ks.length c).ownBlock → w2.heap[b]? = w.heap[b]?) :
    BldMem w2 base ((r, f, ks ++ [t]) :: st) V m cp (ys ++ [.int .i64 r, .int .i64 f, .int .i64 0, .slice (some ⟨g1, 0, none⟩) (ks.length + 1) cap1]) (g1 :: used) S := by
  have hl : (ks ++ [t]).length = ks.length + 1 := by simp
  have hnotA : ∀ b, b ∉ (Value.slice A ks.length c).ownBlock.toList → some b ≠ (Value.slice A ks.length c).ownBlock := fun b hb e => hb (by rw [← e]; simp)
  have hcell : ∀ p : Addr, S p.block → w2.cell? p = w.cell? p := fun p hp => by
    obtain ⟨q1, q2, q3⟩ := h.sep _ hp
    exact World.cell?_of_block (hkeep _ q1 q3 (hnotA _ fun hb => q2 (List.mem_append.2 (.inl hb))))
  have hused : ∀ b ∈ used, b ≠ g1 := by
    intro b hb e
    subst e
    rcases hat with h1 | h1
    · exact (List.nodup_append.1 h.nodup).2.2 b (by rw [h1]; simp) b hb rfl
    · have := (h.stack.lt b hb).2
      omega
  refine ⟨h.cnt, ho, ⟨ys, some ⟨g1, 0, none⟩, cap1, kxs ++ tc, used, by rw [hl], by rw [hl]; exact hk, (h.kids.snoc ht).keep (fun _ h => h) hcell, rfl, h.stack.keep (fun _ h => h) hcell fun b hb => ?_⟩, ?_, ?_, ?_, h.low⟩
  · refine hkeep b (h.stack.lt b hb).2 (h.ne b (List.mem_append.2 (.inr hb))) (hnotA b fun hb' => (List.nodup_append.1 h.nodup).2.2 b hb' b hb rfl)
  · rw [List.nodup_cons]
    exact ⟨fun hb => hused g1 hb rfl, (List.nodup_append.1 h.nodup).2.1⟩
  · intro b hb e
    rcases List.mem_cons.1 hb with rfl | hb
    · rcases hat with h1 | h1
      · exact h.ne b (List.mem_append.2 (.inl (by rw [h1]; simp))) e
      · have := (h.own.lt b e.symm).2
        omega
    · exact h.ne b (List.mem_append.2 (.inr hb)) e
  · intro b hS
    obtain ⟨q1, q2, q3⟩ := h.sep b hS
    refine ⟨Nat.lt_of_lt_of_le q1 hsz, fun hb => ?_, q3⟩
    rcases List.mem_cons.1 hb with rfl | hb
    · rcases hat with h1 | h1
      · exact q2 (List.mem_append.2 (.inl (by rw [h1]; simp)))
      · omega
    · exact q2 (List.mem_append.2 (.inr hb))
end Go.Proofs.Ytndhbdbfjkmloaa
namespace Go.Proofs.Ytndhbdbfjkmloaa
open Go.RowKit

theorem set_last (ys : List Value) (a b c u x : Value) {j : Nat} (hj : ys.length + 3 = j) : (ys ++ [a, b, c, x]).set j u = ys ++ [a, b, c, u] := by
  subst hj
  rw [List.set_append_right _ _ (by omega), Nat.add_sub_cancel_left]
  rfl
theorem set_four (ys : List Value) (a b c d p q r s : Value) {j : Nat} (hj : ys.length = j) : ((((ys ++ [a, b, c, d]).set j p).set (j + 1) q).set (j + 2) r).set (j + 3) s = ys ++ [p, q, r, s] := by
  subst hj
  rw [List.set_append_right _ _ (by omega), Nat.sub_self]
  simp only [List.set_cons_zero]
  rw [List.set_append_right _ _ (by omega), Nat.add_sub_cancel_left]
  simp only [List.set_cons_succ, List.set_cons_zero]
  rw [List.set_append_right _ _ (by omega), Nat.add_sub_cancel_left]
  simp only [List.set_cons_succ, List.set_cons_zero]
  rw [List.set_append_right _ _ (by omega), Nat.add_sub_cancel_left]
  rfl

section
variable {w : World} {base : Nat} {r f : Int} {ks : List Tr} {st : List Fr} {g : Nat} {m cp : Nat} {ys : List Value} {A : Option Addr} {c : Nat} {kxs : List Value} {used : List Nat} {S : Nat → Prop} {wa w1 : World} {g1 cap1 : Nat} {t : Tr} {tc zc : List Value}

theorem BldTop.below {V : Option Addr} {w' : World} (h : BldTop w base r f ks st V m cp ys A c kxs used S) (hb : Below w.heap.size w w') : BldTop w' base r f ks st V m cp ys A c kxs used S where
  cnt := h.cnt
  own := own_below h.own hb
  kown := own_below h.kown hb
  kids := h.kids.keep (fun _ h => h) (fun _ hp => hb.cell (h.sep _ hp).1)
  stack := h.stack.keep (fun _ h => h) (fun _ hp => hb.cell (h.sep _ hp).1) (fun b hu => hb.block b (h.stack.lt b hu).2)
  nodup := h.nodup
  ne := h.ne
  sep b hS := ⟨Nat.lt_of_lt_of_le (h.sep b hS).1 hb.size, (h.sep b hS).2⟩
  low := h.low
theorem BldTop.ne_row (h : BldTop w base r f ks st (some ⟨g, 0, none⟩) m cp ys A c kxs used S) : some g ≠ (Value.slice A ks.length c).ownBlock := by
  intro e
  exact h.ne g (List.mem_append.2 (.inl (by rw [← e]; simp))) rfl
theorem BldTop.lt (h : BldTop w base r f ks st (some ⟨g, 0, none⟩) m cp ys A c kxs used S) : base ≤ g ∧ g < w.heap.size := h.own.lt g rfl
theorem BldTop.ylen (h : BldTop w base r f ks st (some ⟨g, 0, none⟩) m cp ys A c kxs used S) : ys.length = st.length * 4 := h.stack.len

/-- the row of what is open, behind the growth of the last one's kids -/
theorem BldTop.own1 (h : BldTop w base r f ks st (some ⟨g, 0, none⟩) m cp ys A c kxs used S) (hwa : Below w.heap.size w wa) (hgrow : wa.grownBy w1 (Value.slice A ks.length c).ownBlock) :
    w1.ownsRow base 38 4 (.slice (some ⟨g, 0, none⟩) m cp) m (ys ++ [.int .i64 r, .int .i64 f, .int .i64 0, .slice A ks.length c]) :=
  own_heap h.own fun b hb => by
    simp [Value.ownBlock] at hb
    subst hb
    have := h.lt
    exact (hgrow.block g (Nat.lt_of_lt_of_le this.2 hwa.size) h.ne_row).trans (hwa.block g this.2)
theorem BldTop.ne1 (h : BldTop w base r f ks st (some ⟨g, 0, none⟩) m cp ys A c kxs used S) (hwa : Below w.heap.size w wa) (hat : (Value.slice A ks.length c).ownBlock = some g1 ∨ g1 = wa.heap.size) : g1 ≠ g := by
  have h1 := h.lt
  have h2 := h.ne_row
  have h3 := hwa.size
  rintro rfl
  rcases hat with e | e
  · exact h2 e.symm
  · omega

theorem BldTop.kid20 (h : BldTop w base r f ks st (some ⟨g, 0, none⟩) m cp ys A c kxs used S) (ht : TrIs w S t tc) (hwa : Below w.heap.size w wa)
    (hown1 : w1.ownsRow base 38 4 (.slice (some ⟨g1, 0, none⟩) (ks.length + 1) cap1) (ks.length + 1) (kxs ++ tc)) (hgrow : wa.grownBy w1 (Value.slice A ks.length c).ownBlock)
    (hat : (Value.slice A ks.length c).ownBlock = some g1 ∨ g1 = wa.heap.size) {p : Nat} (hp : st.length = p) :
    BldMem (w1.setCell ⟨g, p * 4 + 3, none⟩ (.slice (some ⟨g1, 0, none⟩) (ks.length + 1) cap1)) base ((r, f, ks ++ [t]) :: st) (some ⟨g, 0, none⟩) m cp
      (ys ++ [.int .i64 r, .int .i64 f, .int .i64 0, .slice (some ⟨g1, 0, none⟩) (ks.length + 1) cap1]) (g1 :: used) S := by
  subst hp
  have hne := h.ne1 hwa hat
  have hs := (h.own1 hwa hgrow).stored (st.length * 4 + 3) (.slice (some ⟨g1, 0, none⟩) (ks.length + 1) cap1)
  rw [set_last _ _ _ _ _ _ (by rw [h.ylen])] at hs
  refine h.kid ht (hat.imp id fun e => by rw [e]; exact hwa.size) ?_ hs.1 (Nat.le_trans hwa.size (Nat.le_trans hgrow.size hs.2.size)) fun b hb hb1 hb2 => ?_
  · exact own_heap hown1 fun b hb => by
      simp [Value.ownBlock] at hb
      subst hb
      exact Below.heap_setCell _ _ _ _ hne
  · have hbg : b ≠ g := fun e => hb1 (by rw [e]; rfl)
    exact (Below.heap_setCell _ _ _ _ hbg).trans ((hgrow.block b (Nat.lt_of_lt_of_le hb hwa.size) hb2).trans (hwa.block b hb))

theorem BldTop.kid18 (h : BldTop w base r f ks st (some ⟨g, 0, none⟩) m cp ys A c kxs used S) {v0 v1 v2 v3 z0 z1 z2 z3 : Value} (ht : TrIs w S t [v0, v1, v2, v3]) (hwa : Below w.heap.size w wa)
    (hown1 : w1.ownsRow base 38 4 (.slice (some ⟨g1, 0, none⟩) (ks.length + 1) cap1) (ks.length + 1) (kxs ++ [z0, z1, z2, z3])) (hgrow : wa.grownBy w1 (Value.slice A ks.length c).ownBlock)
    (hat : (Value.slice A ks.length c).ownBlock = some g1 ∨ g1 = wa.heap.size) {p n : Nat} (hp : st.length = p) (hn : ks.length = n) :
    BldMem (((((w1.setCell ⟨g, p * 4 + 3, none⟩ (.slice (some ⟨g1, 0, none⟩) (n + 1) cap1)).setCell ⟨g1, n * 4, none⟩ v0).setCell ⟨g1, n * 4 + 1, none⟩ v1).setCell ⟨g1, n * 4 + 2, none⟩ v2).setCell ⟨g1, n * 4 + 3, none⟩ v3) base ((r, f, ks ++ [t]) :: st) (some ⟨g, 0, none⟩) m cp
      (ys ++ [.int .i64 r, .int .i64 f, .int .i64 0, .slice (some ⟨g1, 0, none⟩) (n + 1) cap1]) (g1 :: used) S := by
  subst hp
  subst hn
  have hne := h.ne1 hwa hat
  have hl := h.kown.1
  have hs := (h.own1 hwa hgrow).stored (st.length * 4 + 3) (.slice (some ⟨g1, 0, none⟩) (ks.length + 1) cap1)
  rw [set_last _ _ _ _ _ _ (by rw [h.ylen])] at hs
  have hk0 : (w1.setCell ⟨g, st.length * 4 + 3, none⟩ (.slice (some ⟨g1, 0, none⟩) (ks.length + 1) cap1)).ownsRow base 38 4 (.slice (some ⟨g1, 0, none⟩) (ks.length + 1) cap1) (ks.length + 1) (kxs ++ [z0, z1, z2, z3]) :=
    own_heap hown1 fun b hb => by
      simp [Value.ownBlock] at hb
      subst hb
      exact Below.heap_setCell _ _ _ _ hne
  have hk1 := (((hk0.stored (ks.length * 4) v0).1.stored (ks.length * 4 + 1) v1).1.stored (ks.length * 4 + 2) v2).1.stored (ks.length * 4 + 3) v3
  rw [set_four _ _ _ _ _ _ _ _ _ hl] at hk1
  have hfar : ∀ b, b ≠ g1 → (((((w1.setCell ⟨g, st.length * 4 + 3, none⟩ (.slice (some ⟨g1, 0, none⟩) (ks.length + 1) cap1)).setCell ⟨g1, ks.length * 4, none⟩ v0).setCell ⟨g1, ks.length * 4 + 1, none⟩ v1).setCell ⟨g1, ks.length * 4 + 2, none⟩ v2).setCell ⟨g1, ks.length * 4 + 3, none⟩ v3).heap[b]? = (w1.setCell ⟨g, st.length * 4 + 3, none⟩ (.slice (some ⟨g1, 0, none⟩) (ks.length + 1) cap1)).heap[b]? := fun b hb => by
    rw [Below.heap_setCell _ _ _ _ hb, Below.heap_setCell _ _ _ _ hb, Below.heap_setCell _ _ _ _ hb, Below.heap_setCell _ _ _ _ hb]
  refine h.kid ht (hat.imp id fun e => by rw [e]; exact hwa.size) hk1.1 ?_ ?_ fun b hb hb1 hb2 => ?_
  · exact own_heap hs.1 fun b hb => by
      simp [Value.ownBlock] at hb
      subst hb
      exact hfar _ (Ne.symm hne)
  · have := Nat.le_trans hwa.size (Nat.le_trans hgrow.size hs.2.size)
    simpa using this
  · have hbg : b ≠ g := fun e => hb1 (by rw [e]; rfl)
    have hb3 : b ≠ g1 := by
      rintro rfl
      rcases hat with e | e
      · exact hb2 e.symm
      · have := hwa.size
        omega
    exact (hfar b hb3).trans ((Below.heap_setCell _ _ _ _ hbg).trans ((hgrow.block b (Nat.lt_of_lt_of_le hb hwa.size) hb2).trans (hwa.block b hb)))
end
end Go.Proofs.Ytndhbdbfjkmloaa
namespace Go.Proofs.Ytndhbdbfjkmloaa
open Go.RowKit

theorem evCells_get : ∀ (l : List Ev) (j : Nat) (v : Ev), l[j]? = some v → ∀ i u, [Value.int .i64 v.1, .int .i64 v.2.1, .int .i64 v.2.2][i]? = some u → (evCells l)[j * 3 + i]? = some u
  | [], j, v, h => by simp at h
  | x :: l, 0, v, h => fun i u hu => by
    simp at h
    subst h
    unfold evCells
    rw [List.flatMap_cons, Nat.zero_mul, Nat.zero_add, List.getElem?_append_left (getElem?_lt hu)]
    exact hu
  | x :: l, j + 1, v, h => fun i u hu => by
    have := evCells_get l j v (by simpa using h) i u hu
    unfold evCells at this ⊢
    rw [List.flatMap_cons, List.getElem?_append_right (by simp; omega)]
    simp only [List.length_cons, List.length_nil]
    rw [← this]
    congr 1
    omega
theorem Reads.ev_at {w : World} {B n j : Nat} {A : Option Addr} {l : List Ev} (h : Reads w B 3 A n (evCells l)) (hj : j < n) :
    ∃ ad a b c, A = some ad ∧ (ad.add (j * 3)).block < B ∧ l[j]? = some (a, b, c) ∧ w.cell? (ad.add (j * 3)) = some (.int .i64 a) ∧
      w.cell? ⟨(ad.add (j * 3)).block, (ad.add (j * 3)).off + 1, none⟩ = some (.int .i64 b) ∧ w.cell? ⟨(ad.add (j * 3)).block, (ad.add (j * 3)).off + 2, none⟩ = some (.int .i64 c) := by
  obtain ⟨ad, rfl, hb, hc⟩ := h.lies (by omega)
  have hl : l.length = n := by have := h.len; rw [evCells_len] at this; omega
  have hej : l[j]? = some (l[j]'(by omega)) := List.getElem?_eq_getElem (by omega)
  generalize l[j]'(by omega) = v at hej
  obtain ⟨a, b, c⟩ := v
  have hg := evCells_get l j _ hej
  refine ⟨ad, a, b, c, rfl, by rw [add_block]; exact hb, hej, ?_, ?_, ?_⟩
  · have := hc (j * 3 + 0) _ (hg 0 _ rfl)
    exact this
  · have := hc (j * 3 + 1) _ (hg 1 _ rfl)
    rw [← add_add'] at this
    exact this
  · have := hc (j * 3 + 2) _ (hg 2 _ rfl)
    rw [← add_add'] at this
    exact this
theorem Reads.ev_len {w : World} {B n : Nat} {A : Option Addr} {l : List Ev} (h : Reads w B 3 A n (evCells l)) : l.length = n := by have := h.len; rw [evCells_len] at this; omega

end Go.Proofs.Ytndhbdbfjkmloaa
namespace Go.Proofs.Ytndhbdbfjkmloaa
open Go.RowKit

theorem own_new {w : World} {base : Nat} {e : TypeId} {size n c : Nat} {cs : Array Value} {xs : List Value} {g : Nat} (hb : Blk w g e cs) (hg : base ≤ g) (hx : cs.toList = xs) (hn : xs.length = n * size) (hnc : n ≤ c) (hcs : cs.size = c * size) (hm : c ≤ maxLen) :
    w.ownsRow base e size (.slice (some ⟨g, 0, none⟩) n c) n xs :=
  ⟨hn, .inr ⟨g, c, cs, rfl, hg, hb, hnc, hm, hcs, by rw [hx, List.take_of_length_le (by omega)]⟩⟩

theorem own_mono {w : World} {base base' : Nat} {e : TypeId} {size n : Nat} {v : Value} {xs : List Value} (h : w.ownsRow base e size v n xs) (hb : base' ≤ base) : w.ownsRow base' e size v n xs :=
  ⟨h.1, h.2.imp id fun ⟨g, cap, cur, h1, h2, h3⟩ => ⟨g, cap, cur, h1, Nat.le_trans hb h2, h3⟩⟩

set_option maxRecDepth 100000 in
theorem ofB_any (t : Tr) : ∀ (cs : List Value) (w : World) (S : Nat → Prop), TrIs w S t cs → (∀ b, S b → b < w.heap.size) → trNodes t ≤ 2700000000000 →
    Calls Try.prog 11 #[.agg cs.toArray] w fun e w' => (∃ V c, e = .returned (.slice V (evs t).length c) ∧ w'.ownsRow w.heap.size 67 3 (.slice V (evs t).length c) (evs t).length (evCells (evs t))) ∧ Below w.heap.size w w' := by
  refine Tr.ind (P := fun t => ∀ (cs : List Value) (w : World) (S : Nat → Prop), TrIs w S t cs → (∀ b, S b → b < w.heap.size) → trNodes t ≤ 2700000000000 →
    Calls Try.prog 11 #[.agg cs.toArray] w fun e w' => (∃ V c, e = .returned (.slice V (evs t).length c) ∧ w'.ownsRow w.heap.size 67 3 (.slice V (evs t).length c) (evs t).length (evCells (evs t))) ∧ Below w.heap.size w w') ?_ t
  intro r f u ks ih cs w S ht hS hsz
  obtain ⟨i0, hi0, hz0, hz1, hz2⟩ := info_parts ev_info
  have hsz' := hsz
  rw [trNodes] at hsz'
  have hlen := trAll_len ks
  have HEV : Hid ((evs (.mk r f u ks)) = ((1, r, f) :: evsAll ks) ++ [(2, r, u)]) := by show _ = _; rw [evs]; rfl
  have HLA := Lib.hid (evsAll_len ks (fun t _ => evs_len t))
  generalize evs (.mk r f u ks) = E at HEV ⊢
  have IH := Lib.hid ih
  cases ht with
  | mk _ _ _ _ A cp row hl hm hb hr hc =>
  have HRow := Lib.hid hr
  have HC := Lib.hid hc
  have HBk := Lib.hid hb
  have MEM := Lib.hid (trAll_mem ks)
  clear ih hr hc hb hsz
  go_enter Try.func11, Try.ntmps11
  go_wp2
  go_loopw [3, 5, 15] (fun v _ i wr => ∃ j m : Nat, j ≤ ks.length ∧ i = .int .i64 j ∧ (∃ V cp, v = .slice V m cp ∧ wr.ownsRow (w.heap.size + 1) 67 3 (.slice V m cp) m (evCells ((1, r, f) :: evsAll (ks.take j)))) ∧ Hid (m = 1 + 2 * trAll (ks.take j)) ∧ Below w.heap.size w wr ∧ Blk wr w.heap.size 38 #[.int .i64 r, .int .i64 f, .int .i64 u, .slice A ks.length cp]) (fun _ _ i _ => ks.length - (intOf i).toNat)
  case atStart =>
    exact ⟨0, 1, by omega, rfl, ⟨_, 1, rfl, own_new (cs := #[.int .i64 1, .int .i64 r, .int .i64 f]) (blk_at (by simp)) (Nat.le_refl _) rfl rfl (by omega) rfl (by unfold maxLen; omega)⟩, rfl, (by repeat (first | exact Below.refl _ _ | assumption | refine Below.drew ?_ | refine below_drewN ?_ _ | refine Below.alloc ?_ (by first | omega | (simp; omega) | simp) _ | refine Below.setCell ?_ (by first | omega | (simp; omega) | simp) _)), (blk_at rfl).alloc _⟩
  case round =>
    obtain ⟨j, m, hj, rfl, ⟨V, vp, rfl, hown⟩, HM, hwr, hbx⟩ := hrel
    by_cases hjk : j < ks.length
    · have HD : Hid (ks.take (j + 1) = ks.take j ++ [ks[j]]) := by
        show _ = _
        exact take_succ_of (List.getElem?_eq_getElem hjk)
      have HTA : Hid (2 * trAll (ks.take j) + (evs ks[j]).length ≤ 2 * trAll ks) := by
        show _ ≤ _
        have h1 := evsAll_len (ks.take j ++ [ks[j]]) (fun t _ => evs_len t)
        have h2 := trAll_take ks (j + 1)
        rw [← HD.out] at h1
        have h3 := evsAll_snoc ks[j] (ks.take j)
        rw [← HD.out] at h3
        rw [h3, List.length_append, evsAll_len (ks.take j) (fun t _ => evs_len t)] at h1
        omega
      have hej0 : ks[j]? = some ks[j] := List.getElem?_eq_getElem hjk
      have HPos : Hid (0 < (evs ks[j]).length) := by
        show _ < _
        rw [evs_len]
        cases ks[j] with
        | mk => rw [trNodes]; omega
      have HTwo : Hid ((evs ks[j]).length = 2 * trNodes ks[j]) := evs_len _
      replace HD : Hid (ks.take (j + 1) = ks.take j ++ [ks[j]] ∧ 2 * trAll (ks.take j) + (evs ks[j]).length ≤ 2 * trAll ks ∧ 0 < (evs ks[j]).length ∧ (evs ks[j]).length = 2 * trNodes ks[j]) := ⟨HD.out, HTA.out, HPos.out, HTwo.out⟩
      clear HTA HPos HTwo hej0
      have hej : ks[j]? = some ks[j] := List.getElem?_eq_getElem hjk
      generalize ks[j] = ej at hej HD
      obtain ⟨ad, rfl, hab⟩ := HBk.out (by omega)
      have hT := (HRow.out j ej hej).keep (fun _ h => h) (fun p hp => hwr.cell (hS _ hp))
      have hcj := HC.out j ej ad hej rfl
      have hmem := List.mem_of_getElem? hej
      generalize row j = rj at hT hcj
      cases ej with
      | mk r' f' u' ks' =>
      have hT2 := hT
      cases hT with
      | mk _ _ _ _ A' cp' row' hl' hm' hb' hr' hc' =>
      have hcc : ∀ i v, [Value.int .i64 r', .int .i64 f', .int .i64 u', .slice A' ks'.length cp'][i]? = some v → wr.cell? ((ad.add (j * 4)).add i) = some v := by
        intro i v hv
        rw [hwr.cell (by rw [add_block, add_block]; exact hS _ hab)]
        exact hcj i v hv
      have e0 : wr.cell? (ad.add (j * 4)) = some (.int .i64 r') := hcc 0 _ rfl
      have e1 : wr.cell? ⟨(ad.add (j * 4)).block, (ad.add (j * 4)).off + 1, none⟩ = some (.int .i64 f') := hcc 1 _ rfl
      have e2 : wr.cell? ⟨(ad.add (j * 4)).block, (ad.add (j * 4)).off + 2, none⟩ = some (.int .i64 u') := hcc 2 _ rfl
      have e3 : wr.cell? ⟨(ad.add (j * 4)).block, (ad.add (j * 4)).off + 3, none⟩ = some (.slice A' ks'.length cp') := hcc 3 _ rfl
      clear hcc hcj hej hr' hc' hb'
      have hwz := hwr.size
      have hk1 := MEM.out _ hmem
      have hcall : ∀ o : Obj, Calls Try.prog 11 #[.agg #[.int .i64 r', .int .i64 f', .int .i64 u', .slice A' ks'.length cp']] (wr.alloc o) fun e w' => (∃ V c, e = .returned (.slice V (evs (.mk r' f' u' ks')).length c) ∧ w'.ownsRow (wr.alloc o).heap.size 67 3 (.slice V (evs (.mk r' f' u' ks')).length c) (evs (.mk r' f' u' ks')).length (evCells (evs (.mk r' f' u' ks')))) ∧ Below (wr.alloc o).heap.size (wr.alloc o) w' := fun o =>
        IH.out _ hmem _ (wr.alloc o) S (hT2.keep (fun _ h => h) (fun p hp => World.cell?_alloc_lt _ _ _ (by have := hS _ hp; omega))) (fun b h => by have := hS _ h; simp; omega) (by omega)
      have HCall := Lib.hid hcall
      obtain ⟨d1, d2, d3, d4⟩ := HD.out
      have HES := Lib.hid (evsAll_snoc (.mk r' f' u' ks') (ks.take j))
      rw [← d1] at HES
      have D1 := Lib.hid d1
      generalize evs (.mk r' f' u' ks') = F at HCall HES d2 d3 d4
      have hm3 : m + F.length ≤ 5400000000001 := by have := HM.out; omega
      have HM2 : Hid (m + F.length = 1 + 2 * trAll (ks.take (j + 1))) := by
        show _ = _
        have h1 := evsAll_len (ks.take (j + 1)) (fun t _ => evs_len t)
        rw [HES.out, List.length_append, evsAll_len (ks.take j) (fun t _ => evs_len t)] at h1
        have := HM.out
        omega
      clear hcall hT2 HD hk1 d1 d2 d4
      go_wp2_with fail
      refine (HCall.out _).mono ?_
      rintro e w2 ⟨⟨V2, c2, rfl, hown2⟩, hb2⟩
      have hw2 : Below w.heap.size w w2 := Below.trans (by repeat (first | exact Below.refl _ _ | assumption | refine Below.drew ?_ | refine below_drewN ?_ _ | refine Below.alloc ?_ (by first | omega | (simp; omega) | simp) _ | refine Below.setCell ?_ (by first | omega | (simp; omega) | simp) _)) (hb2.mono (by first | omega | (simp; omega) | simp))
      have hbx2 := (hbx.alloc (.cells #[.int .i64 r', .int .i64 f', .int .i64 u', .slice A' ks'.length cp'] 38)).below hb2 (by have := hbx.lt; simp; omega)
      have hown3 := own_below (hown.alloc _) hb2
      clear hb2 hbx hown
      obtain ⟨g2, c2', hv2, _, hlt2⟩ := hown2.form d3
      simp only [Value.slice.injEq] at hv2
      obtain ⟨rfl, -, rfl⟩ := hv2
      have C2 := Lib.hid (hown2.cells (g := g2) rfl)
      have hsw := hw2.size
      clear hown2
      go_wp2_with (at_builtin; refine wpList_append_lies _ rfl _ _ _ rfl (w.heap.size + 1) 67 i0 _ 3 24 Try.underlying44 hi0 hz0 hz1 hz2 rfl (by omega) (.slice V m vp) m _ rfl hown3 ⟨g2, 0, none⟩ F.length c2 (evCells F) rfl (evCells_len F) C2.out (evCells_one F) d3 (by unfold maxLen; omega) (by omega) (by have := hbx2.lt; omega) _ rfl ?_; intro g3 cap w3 hown4 hgrow hat hlt)
      go_roundw
      case rel =>
        refine ⟨j + 1, m + F.length, by omega, by go_num, ⟨_, cap, rfl, ?_⟩, HM2, below_app hw2 hown3 hgrow hsw (by omega), hbx2.grown hgrow (own_ne hown3 (by omega))⟩
        rw [HES.out, ← List.cons_append, evCells_app]
        exact hown4
      case measure => simp [intOf]; omega
    · obtain rfl : j = ks.length := by omega
      have hx0 : wr.cell? ⟨w.heap.size, 0, none⟩ = some (.int .i64 r) := hbx.cell 0
      have hx2 : wr.cell? ⟨w.heap.size, 2, none⟩ = some (.int .i64 u) := hbx.cell 2
      have hbl := hbx.lt
      have hta : ks.take ks.length = ks := List.take_length
      rw [hta] at HM hown
      have hm3 : m ≤ 5400000000001 := by have := HM.out; omega
      have hwz := hwr.size
      clear hta
      go_wp2_with (at_builtin; refine wpList_append_lies _ rfl _ _ _ rfl (w.heap.size + 1) 67 i0 _ 3 24 Try.underlying44 hi0 hz0 hz1 hz2 rfl (by omega) (.slice V m vp) m _ rfl (hown.alloc _) ⟨wr.heap.size, 0, none⟩ 1 1 (evCells [(2, r, u)]) rfl rfl (World.news_of_block (cs := #[.int .i64 2, .int .i64 r, .int .i64 u]) (t := 67) (fr := (0, 0)) (heap_alloc_new wr _)) (evCells_one _) (by omega) (by unfold maxLen; omega) (by omega) (by simp; omega) _ rfl ?_; intro g3 cap w3 hown4 hgrow hat hlt)
      go_ret
      have he : E.length = m + 1 := by
        have h1 := congrArg List.length HEV.out
        have h2 := HM.out
        have h3 := HLA.out
        simp at h1
        omega
      refine ⟨⟨some ⟨g3, 0, none⟩, cap, by rw [he]; rfl, ?_⟩, below_app (hwr.alloc hwz _) (hown.alloc _) hgrow (by simp; omega) (by omega)⟩
      rw [he, HEV.out, evCells_app]
      exact own_mono hown4 (by omega)
end Go.Proofs.Ytndhbdbfjkmloaa
namespace Go.Proofs.Ytndhbdbfjkmloaa

mutual
/-- how high a tree is -/
def hiT : Tr → Nat
  | .mk _ _ _ ks => 1 + hiS ks
def hiS : List Tr → Nat
  | [] => 0
  | t :: ts => max (hiT t) (hiS ts)
end
mutual
/-- how many kids a node has at most -/
def kiT : Tr → Nat
  | .mk _ _ _ ks => max ks.length (kiS ks)
def kiS : List Tr → Nat
  | [] => 0
  | t :: ts => max (kiT t) (kiS ts)
end
theorem hiS_app : ∀ a b : List Tr, hiS (a ++ b) = max (hiS a) (hiS b)
  | [], b => by simp [hiS]
  | t :: a, b => by rw [List.cons_append, hiS, hiS, hiS_app a b, Nat.max_assoc]
theorem kiS_app : ∀ a b : List Tr, kiS (a ++ b) = max (kiS a) (kiS b)
  | [], b => by simp [kiS]
  | t :: a, b => by rw [List.cons_append, kiS, kiS, kiS_app a b, Nat.max_assoc]
/-- the frames of a stack are no wider than the tree, and no higher each at its place -/
def StB (H K : Nat) : List Fr → Prop
  | [] => True
  | fr :: st => fr.2.2.length ≤ K ∧ kiS fr.2.2 ≤ K ∧ (st.length + 1) + hiS fr.2.2 ≤ H ∧ StB H K st
theorem StB.len {H K : Nat} : ∀ {st : List Fr}, StB H K st → st.length ≤ H ∧ ∀ fr ∈ st, fr.2.2.length ≤ K
  | [], _ => ⟨Nat.zero_le _, fun _ h => by cases h⟩
  | fr :: st, h => by
    obtain ⟨h1, _, h3, h4⟩ := h
    refine ⟨by rw [List.length_cons]; omega, fun x hx => ?_⟩
    rcases List.mem_cons.1 hx with rfl | hx
    · exact h1
    · exact h4.len.2 x hx
theorem bld_stb {t0 : Tr} : ∀ (rest : List Ev) (st : List Fr), bld rest st = some t0 → StB (hiT t0) (kiT t0) st
  | [], st, h => by rw [bld] at h; cases h
  | (k, r, a) :: rest, st, h => by
    rw [bld.eq_def] at h
    dsimp only at h
    split at h
    · have := bld_stb rest _ h
      exact this.2.2.2
    · split at h
      · cases h
      · rename_i r' f' ks' st'
        split at h
        · cases st' with
          | nil =>
            dsimp only at h
            split at h
            · injection h with h
              subst h
              refine ⟨?_, ?_, ?_, trivial⟩
              · rw [kiT]; exact Nat.le_max_left _ _
              · rw [kiT]; exact Nat.le_max_right _ _
              · rw [hiT]; simp
            · cases h
          | cons fr st'' =>
            obtain ⟨r2, f2, ks2⟩ := fr
            dsimp only at h
            obtain ⟨h1, h2, h3, h4⟩ := bld_stb rest _ h
            dsimp only at h1 h2 h3
            rw [kiS_app, kiS, kiS, kiT] at h2
            rw [hiS_app, hiS, hiS, hiT] at h3
            rw [List.length_append] at h1
            have e1 := Nat.max_le.1 h2
            have e2 := Nat.max_le.1 (Nat.max_le.1 e1.2).1
            refine ⟨e2.1, e2.2, ?_, ?_, e1.1, ?_, h4⟩
            · rw [List.length_cons]; dsimp only; omega
            · dsimp only; omega
            · dsimp only; omega
        · cases h
theorem bld_bound {t0 : Tr} (rest : List Ev) (st : List Fr) (h : bld rest st = some t0) : st.length ≤ hiT t0 ∧ ∀ fr ∈ st, fr.2.2.length ≤ kiT t0 := (bld_stb rest st h).len
end Go.Proofs.Ytndhbdbfjkmloaa
