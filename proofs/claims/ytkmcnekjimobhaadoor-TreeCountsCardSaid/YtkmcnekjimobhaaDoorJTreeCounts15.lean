/- tree.Of: what it answers. A runner in memory; (*runner).run of what has no kids. (*runner).run of a set, of a text. (*runner).run of a name. (*runner).again; (*runner).run of sequences and alternatives. -/
import Derived.Test.YtkmcnekjimobhaaDoorJTreeCounts14
import Derived.Test.YtkmcnekjimobhaaDoorJTreeCounts11
import Derived.Test.YtkmcnekjimobhaaDoorJTreeCounts3
namespace Go.Proofs.YtkmcnekjimobhaaDoor
open Go.RowKit Go.Maps

def zeroTr : Value := .agg #[.int .i64 0, .int .i64 0, .int .i64 0, .slice none 0 0]
/-- what tree.Of answers -/
def TofQ (g : List Rl) (s : ByteArray) (w : World) (e : Ending) (w' : World) : Prop := Below w.heap.size w w' ∧
  ((lookG g s ≠ 0 ∧ e = .returned (.tuple #[zeroTr, .int .i64 (lookG g s)])) ∨
   (lookG g s = 0 ∧ (∃ r, g[0]? = some r ∧ Sem g s.data.toList r.2 0 none) ∧ e = .returned (.tuple #[zeroTr, .int .i64 11])) ∨
   (lookG g s = 0 ∧ ∃ (r : Rl) (n q : Nat) (V : Option Addr) (cp : Nat) (S : Nat → Prop), g[0]? = some r ∧ evJ g s.data.toList n (.ex r.2) 0 = some (some q) ∧
     e = .returned (.tuple #[.agg #[.int .i64 0, .int .i64 0, .int .i64 q, .slice V (trJ g s.data.toList n (.ex r.2) 0).length cp], .int .i64 0]) ∧
     TrIs w' S (.mk 0 0 q (trJ g s.data.toList n (.ex r.2) 0)) [.int .i64 0, .int .i64 0, .int .i64 q, .slice V (trJ g s.data.toList n (.ex r.2) 0).length cp] ∧ ∀ b, S b → w.heap.size ≤ b ∧ b < w'.heap.size))

theorem run_out0 (b : Bool) (z : Int) (w : World) : Sem.run Tryd.prog (Instr.field 33 (.agg #[.bool b, .int .i64 z]) 0) w = .ok (.bool b) w := by kernel_rfl

set_option maxRecDepth 100000 in
set_option maxHeartbeats 8000000 in
theorem tof_any {g : List Rl} {A : Option Addr} {cp : Nat} {row : Nat → List Value} {w : World} (h : GrIs w w.heap.size g A cp row) (hwf : ∀ r ∈ g, WfE r.2) (s : ByteArray) :
    Calls Tryd.prog 6 #[.agg #[.slice A g.length cp], .string s] w (TofQ g s w) := by
  have hlk := fun W (hW : Below w.heap.size w W) => mlook_any ((h.on hW).more hW.size) s
  have HLK := Lib.hid hlk
  have HG := Lib.hid h
  have HWF := Lib.hid hwf
  clear hlk h hwf
  generalize hQ : TofQ g s w = Q
  have HQ := Lib.hid hQ
  clear hQ
  by_cases hl0 : lookG g s = 0
  · obtain ⟨W, h60⟩ := look_zero hl0
    rw [hl0] at HLK
    have HL0 := Lib.hid hl0
    have HW := Lib.hid W
    have h10 := W.right.ten
    have hpos := W.right.pos
    clear hl0 W
    obtain ⟨r, hr⟩ : ∃ r, g[0]? = some r := ⟨_, List.getElem?_eq_getElem hpos⟩
    have hsl : s.data.toList.length = s.size := size_list s
    obtain ⟨n, o, hev⟩ := ends (s := s.data.toList) HW.out (p := 0) (by omega) (HW.out.good (List.mem_of_getElem? hr))
    obtain ⟨m, σ1, hpk, hag, _⟩ := goes_rule (hook := false) (fits_of HW.out.right) (by omega) hr hev (fun n0 _ o ho σ num hσ => (goes (fits_of HW.out.right) n0).1 r.2 0 o (HW.out.right.rt r (List.mem_of_getElem? hr)) (by omega) ho σ num hσ) (agree0 g s.data.toList)
    have hbd := (pk_bound _ _ _ _ _ _ _ _ _ hpk (by omega) (bound0 _)).2
    have hnew := fun W (hW : Below w.heap.size w W) => new_any ((HG.out.on hW).more hW.size) hpos h10 (sixty_of HW.out.right) s
    have HN := Lib.hid hnew
    have HPK := Lib.hid hpk
    have HEV := Lib.hid hev
    have HAG := Lib.hid hag
    have HBD := Lib.hid hbd
    have HR := Lib.hid hr
    clear hnew hpk hev hag hbd hr
    go_enter Tryd.func6, Tryd.ntmps6
    go_wp2_with fail
    refine (HLK.out _ (by repeat (first | exact Below.refl _ _ | assumption | refine Below.drew ?_ | refine below_drewN ?_ _ | refine Below.alloc ?_ (by first | omega | (simp; omega) | simp) _ | refine Below.setCell ?_ (by first | omega | (simp; omega) | simp) _))).mono ?_
    rintro e w1 ⟨rfl, hb1⟩
    have hw1 : Below w.heap.size w w1 := (((Below.refl _ w).alloc (Nat.le_refl _) _).alloc (by simp) _).trans (hb1.mono (by simp; omega))
    have hgx : Blk w1 w.heap.size 24 #[.slice A g.length cp] := ((blk_at rfl).alloc _).below hb1 (by simp; omega)
    have hox : Blk w1 (w.heap.size + 1) 28 #[.int .i64 0, .int .i64 0, .int .i64 0, .slice none 0 0] := (blk_at (by simp)).below hb1 (by simp)
    have g0 : w1.cell? ⟨w.heap.size, 0, none⟩ = some (.slice A g.length cp) := hgx.cell 0
    clear hb1
    go_wp2_with fail
    refine (HN.out _ hw1).mono ?_
    rintro e w2 ⟨c, hcg, hcs, hch, ⟨hhk, hlm, -⟩, rfl, hok, hpar, hb2, hcB⟩
    have hw2 : Below w.heap.size w w2 := hw1.trans (hb2.mono hw1.size)
    have hox2 := hox.below hb2 hox.lt
    have F : c.Fit := PC.fit (by rw [hcg]; exact HW.out) (by rw [hcs]; exact h60) hok hhk hlm hch (by rw [hcg]; exact HWF.out)
    have hal : Below w2.heap.size w2 (w2.alloc (.cells #[.pointer (some ⟨c.P, 0, none⟩)] 53)) := (by repeat (first | exact Below.refl _ _ | assumption | refine Below.drew ?_ | refine below_drewN ?_ _ | refine Below.alloc ?_ (by first | omega | (simp; omega) | simp) _ | refine Below.setCell ?_ (by first | omega | (simp; omega) | simp) _))
    have hru := (does F m).2.2 0 0 ps0 (o, σ1) (w2.alloc (.cells #[.pointer (some ⟨c.P, 0, none⟩)] 53)) (by rw [hcg, hcs, hhk]; exact HPK.out) (by rw [hcg]; exact hpos) (by omega) (bound0 _) (hpar.below hok hal)
    have HRU := Lib.hid hru
    have hzw := hw1.size
    have hxl := hox.lt
    have hBP := hok.BP
    have hBM := hok.BM
    have hBb := hok.Bb
    have hPs := hpar.size
    have hPb := hok.P
    have hMb := hok.M
    have hz12 := hb2.size
    have hbb : Blk (w2.alloc (.cells #[.pointer (some ⟨c.P, 0, none⟩)] 53)) w2.heap.size 53 #[.pointer (some ⟨c.P, 0, none⟩)] := blk_at rfl
    have hox3 := hox2.alloc (.cells #[.pointer (some ⟨c.P, 0, none⟩)] 53)
    have hw3 : Below w.heap.size w (w2.alloc (.cells #[.pointer (some ⟨c.P, 0, none⟩)] 53)) := hw2.alloc (by omega) _
    have hs3 : w2.heap.size < (w2.alloc (.cells #[.pointer (some ⟨c.P, 0, none⟩)] 53)).heap.size := by simp
    clear hru hb2 hal hpar hox2 hw2
    go_upto_region 5 with fail
    generalize (w2.alloc (.cells #[.pointer (some ⟨c.P, 0, none⟩)] 53)) = w3 at HRU hbb hox3 hw3 hs3 ⊢
    generalize w2.heap.size = bb at hbb hPs hz12 hs3 ⊢
    have b0 := hbb.cell 0
    go_wp2_with fail
    refine HRU.out.mono ?_
    rintro e w4 ⟨⟨v, rfl, hv⟩, q1, q2⟩
    obtain ⟨b, z, hbn⟩ : ∃ (b : Bool) (z : Int), outV v = .agg #[.bool b, .int .i64 z] := by cases v <;> exact ⟨_, _, rfl⟩
    have hbo : b = o.isSome := by
      simp only at hv
      rw [hv]
      cases v with
      | none => simp [outV] at hbn; exact hbn.1
      | some k => simp [outV] at hbn; exact hbn.1
    have hox4 : Blk w4 (w.heap.size + 1) 28 #[.int .i64 0, .int .i64 0, .int .i64 0, .slice none 0 0] := q2.box hox3 (by decide) (by omega) (by omega)
    have hbb4 := q2.box hbb (by decide) (by omega) (by omega)
    have hw4 : Below w.heap.size w w4 := hw3.trans (q2.below (by omega) (by omega) (by omega) (by omega))
    have hpp4 : PP c w4 := ⟨σ1, q1, by rw [hcg, hcs]; exact HAG.out, by rw [hcs]; exact HBD.out⟩
    have hs4 := q2.size
    have hrf := run_out0
    rw [hbn]
    clear q1 q2 HRU hbn hv hbb hox3 b0
    cases o with
    | none =>
      obtain rfl : b = false := hbo
      have yz0 : w4.cell? ⟨w.heap.size + 1, 0, none⟩ = some (.int .i64 0) := hox4.cell 0; have yz1 : w4.cell? ⟨w.heap.size + 1, 1, none⟩ = some (.int .i64 0) := hox4.cell 1; have yz2 : w4.cell? ⟨w.heap.size + 1, 2, none⟩ = some (.int .i64 0) := hox4.cell 2; have yz3 : w4.cell? ⟨w.heap.size + 1, 3, none⟩ = some (.slice none 0 0) := hox4.cell 3; have yf0 := hox4.frozen 0; have yf1 := hox4.frozen 1; have yf2 := hox4.frozen 2; have yf3 := hox4.frozen 3; have ye0 : (w4.setCell ⟨w.heap.size + 1, 0, none⟩ (.int .i64 0)).cell? ⟨w.heap.size + 1, 0, none⟩ = some (.int .i64 0) := (hox4.set_ 0 _).cell 0; have ye1 : ((w4.setCell ⟨w.heap.size + 1, 0, none⟩ (.int .i64 0)).setCell ⟨w.heap.size + 1, 1, none⟩ (.int .i64 0)).cell? ⟨w.heap.size + 1, 1, none⟩ = some (.int .i64 0) := ((hox4.set_ 0 _).set_ 1 _).cell 1; have ye2 : (((w4.setCell ⟨w.heap.size + 1, 0, none⟩ (.int .i64 0)).setCell ⟨w.heap.size + 1, 1, none⟩ (.int .i64 0)).setCell ⟨w.heap.size + 1, 2, none⟩ (.int .i64 0)).cell? ⟨w.heap.size + 1, 2, none⟩ = some (.int .i64 0) := (((hox4.set_ 0 _).set_ 1 _).set_ 2 _).cell 2; have ye3 : ((((w4.setCell ⟨w.heap.size + 1, 0, none⟩ (.int .i64 0)).setCell ⟨w.heap.size + 1, 1, none⟩ (.int .i64 0)).setCell ⟨w.heap.size + 1, 2, none⟩ (.int .i64 0)).setCell ⟨w.heap.size + 1, 3, none⟩ (.slice none 0 0)).cell? ⟨w.heap.size + 1, 3, none⟩ = some (.slice none 0 0) := ((((hox4.set_ 0 _).set_ 1 _).set_ 2 _).set_ 3 _).cell 3
      have HF : Hid (∀ W', Below w.heap.size w W' → Q (.returned (.tuple #[.agg #[.int .i64 0, .int .i64 0, .int .i64 0, .slice none 0 0], .int .i64 11])) W') := fun W' hb => HQ.out ▸ ⟨hb, .inr (.inl ⟨HL0.out, ⟨r, HR.out, n, HEV.out⟩, rfl⟩)⟩
      clear HQ hpp4 hbb4 F
      go_wp2
      exact bodyPost_ret (v := .tuple #[.agg #[.int .i64 0, .int .i64 0, .int .i64 0, .slice none 0 0], .int .i64 11]) (by simp [results, Tryd.results6, go_sem, ye0, ye1, ye2, ye3]) rfl (HF.out _ (by repeat (first | exact Below.refl _ _ | assumption | refine Below.drew ?_ | refine below_drewN ?_ _ | refine Below.alloc ?_ (by first | omega | (simp; omega) | simp) _ | refine Below.setCell ?_ (by first | omega | (simp; omega) | simp) _)))
    | some q =>
      obtain rfl : b = true := hbo
      have htr := trule_any F (by rw [hcg]; exact HW.out) (by rw [hcs]; omega) (twalks F (by rw [hcg]; exact HW.out) (by rw [hcs]; omega) n) 0 0 q r bb w4 (by rw [hcg]; exact HR.out) (by rw [hcg, hcs]; exact HEV.out) (by omega) hpp4 ⟨hPs, hbb4⟩
      rw [hcg, hcs] at htr
      have HTR := Lib.hid htr
      clear htr
      go_wp2_with fail
      refine HTR.out.mono ?_
      rintro e w5 ⟨hpp5, hk5, V, cv, S, rfl, htr, hsp⟩
      have hox5 := hk5.box hox4 (by decide) (by omega) (by omega)
      have hw5 : Below w.heap.size w w5 := hw4.trans (hk5.below (by omega) (by omega) (by omega) (by omega))
      generalize hKS : trJ g s.data.toList n (.ex r.2) 0 = KS at htr ⊢
      have yz0 : w5.cell? ⟨w.heap.size + 1, 0, none⟩ = some (.int .i64 0) := hox5.cell 0; have yz1 : w5.cell? ⟨w.heap.size + 1, 1, none⟩ = some (.int .i64 0) := hox5.cell 1; have yz2 : w5.cell? ⟨w.heap.size + 1, 2, none⟩ = some (.int .i64 0) := hox5.cell 2; have yz3 : w5.cell? ⟨w.heap.size + 1, 3, none⟩ = some (.slice none 0 0) := hox5.cell 3; have yf0 := hox5.frozen 0; have yf1 := hox5.frozen 1; have yf2 := hox5.frozen 2; have yf3 := hox5.frozen 3; have ye0 : (w5.setCell ⟨w.heap.size + 1, 0, none⟩ (.int .i64 0)).cell? ⟨w.heap.size + 1, 0, none⟩ = some (.int .i64 0) := (hox5.set_ 0 _).cell 0; have ye1 : ((w5.setCell ⟨w.heap.size + 1, 0, none⟩ (.int .i64 0)).setCell ⟨w.heap.size + 1, 1, none⟩ (.int .i64 0)).cell? ⟨w.heap.size + 1, 1, none⟩ = some (.int .i64 0) := ((hox5.set_ 0 _).set_ 1 _).cell 1; have ye2 : (((w5.setCell ⟨w.heap.size + 1, 0, none⟩ (.int .i64 0)).setCell ⟨w.heap.size + 1, 1, none⟩ (.int .i64 0)).setCell ⟨w.heap.size + 1, 2, none⟩ (.int .i64 q)).cell? ⟨w.heap.size + 1, 2, none⟩ = some (.int .i64 q) := (((hox5.set_ 0 _).set_ 1 _).set_ 2 _).cell 2; have ye3 : ((((w5.setCell ⟨w.heap.size + 1, 0, none⟩ (.int .i64 0)).setCell ⟨w.heap.size + 1, 1, none⟩ (.int .i64 0)).setCell ⟨w.heap.size + 1, 2, none⟩ (.int .i64 q)).setCell ⟨w.heap.size + 1, 3, none⟩ (.slice V KS.length cv)).cell? ⟨w.heap.size + 1, 3, none⟩ = some (.slice V KS.length cv) := ((((hox5.set_ 0 _).set_ 1 _).set_ 2 _).set_ 3 _).cell 3
      have hheap : ∀ b, w.heap.size + 1 ≠ b → ((((w5.setCell ⟨w.heap.size + 1, 0, none⟩ (.int .i64 0)).setCell ⟨w.heap.size + 1, 1, none⟩ (.int .i64 0)).setCell ⟨w.heap.size + 1, 2, none⟩ (.int .i64 q)).setCell ⟨w.heap.size + 1, 3, none⟩ (.slice V KS.length cv)).heap[b]? = w5.heap[b]? := fun b hb => by
        rw [Below.heap_setCell _ _ _ _ (Ne.symm hb), Below.heap_setCell _ _ _ _ (Ne.symm hb), Below.heap_setCell _ _ _ _ (Ne.symm hb), Below.heap_setCell _ _ _ _ (Ne.symm hb)]
      have HT := Lib.hid (htr.keep (S' := S) (fun _ h => h) fun p hp => World.cell?_of_block (hheap _ (by have := (hsp _ hp).1; omega)))
      have HF : Hid (∀ W', W' = ((((w5.setCell ⟨w.heap.size + 1, 0, none⟩ (.int .i64 0)).setCell ⟨w.heap.size + 1, 1, none⟩ (.int .i64 0)).setCell ⟨w.heap.size + 1, 2, none⟩ (.int .i64 q)).setCell ⟨w.heap.size + 1, 3, none⟩ (.slice V KS.length cv)) → Below w.heap.size w W' → Q (.returned (.tuple #[.agg #[.int .i64 0, .int .i64 0, .int .i64 q, .slice V KS.length cv], .int .i64 0])) W') := fun W' he hb => HQ.out ▸ ⟨hb, .inr (.inr ⟨HL0.out, r, n, q, V, cv, S, HR.out, HEV.out, by rw [hKS], by rw [hKS, he]; exact HT.out, fun b hb => by
        obtain ⟨h1, cs, h2⟩ := hsp b hb
        rw [he]
        have := h2.lt
        exact ⟨by omega, by simpa [World.setCell] using this⟩⟩)⟩
      clear HQ hpp4 hbb4 F HT htr hsp hk5 hpp5 hheap hKS HTR
      go_wp2
      exact bodyPost_ret (v := .tuple #[.agg #[.int .i64 0, .int .i64 0, .int .i64 q, .slice V KS.length cv], .int .i64 0]) (by simp [results, Tryd.results6, go_sem, ye0, ye1, ye2, ye3]) rfl (HF.out _ rfl (by repeat (first | exact Below.refl _ _ | assumption | refine Below.drew ?_ | refine below_drewN ?_ _ | refine Below.alloc ?_ (by first | omega | (simp; omega) | simp) _ | refine Below.setCell ?_ (by first | omega | (simp; omega) | simp) _)))
  · have hxb : (lookG g s != 0) = true := by rw [bne_iff_ne]; exact hl0
    have HF : Hid (∀ W', Below w.heap.size w W' → Q (.returned (.tuple #[.agg #[.int .i64 0, .int .i64 0, .int .i64 0, .slice none 0 0], .int .i64 (lookG g s)])) W') := fun W' hb => HQ.out ▸ ⟨hb, .inl ⟨hl0, rfl⟩⟩
    generalize lookG g s = x at HLK HF hxb
    clear hl0 HQ
    go_enter Tryd.func6, Tryd.ntmps6
    go_wp2_with fail
    refine (HLK.out _ (by repeat (first | exact Below.refl _ _ | assumption | refine Below.drew ?_ | refine below_drewN ?_ _ | refine Below.alloc ?_ (by first | omega | (simp; omega) | simp) _ | refine Below.setCell ?_ (by first | omega | (simp; omega) | simp) _))).mono ?_
    rintro e w1 ⟨rfl, hb1⟩
    have hw1 : Below w.heap.size w w1 := (((Below.refl _ w).alloc (Nat.le_refl _) _).alloc (by simp) _).trans (hb1.mono (by simp; omega))
    have hox : Blk w1 (w.heap.size + 1) 28 #[.int .i64 0, .int .i64 0, .int .i64 0, .slice none 0 0] := (blk_at (by simp)).below hb1 (by simp)
    have yz0 : w1.cell? ⟨w.heap.size + 1, 0, none⟩ = some (.int .i64 0) := hox.cell 0; have yz1 : w1.cell? ⟨w.heap.size + 1, 1, none⟩ = some (.int .i64 0) := hox.cell 1; have yz2 : w1.cell? ⟨w.heap.size + 1, 2, none⟩ = some (.int .i64 0) := hox.cell 2; have yz3 : w1.cell? ⟨w.heap.size + 1, 3, none⟩ = some (.slice none 0 0) := hox.cell 3; have yf0 := hox.frozen 0; have yf1 := hox.frozen 1; have yf2 := hox.frozen 2; have yf3 := hox.frozen 3; have ye0 : (w1.setCell ⟨w.heap.size + 1, 0, none⟩ (.int .i64 0)).cell? ⟨w.heap.size + 1, 0, none⟩ = some (.int .i64 0) := (hox.set_ 0 _).cell 0; have ye1 : ((w1.setCell ⟨w.heap.size + 1, 0, none⟩ (.int .i64 0)).setCell ⟨w.heap.size + 1, 1, none⟩ (.int .i64 0)).cell? ⟨w.heap.size + 1, 1, none⟩ = some (.int .i64 0) := ((hox.set_ 0 _).set_ 1 _).cell 1; have ye2 : (((w1.setCell ⟨w.heap.size + 1, 0, none⟩ (.int .i64 0)).setCell ⟨w.heap.size + 1, 1, none⟩ (.int .i64 0)).setCell ⟨w.heap.size + 1, 2, none⟩ (.int .i64 0)).cell? ⟨w.heap.size + 1, 2, none⟩ = some (.int .i64 0) := (((hox.set_ 0 _).set_ 1 _).set_ 2 _).cell 2; have ye3 : ((((w1.setCell ⟨w.heap.size + 1, 0, none⟩ (.int .i64 0)).setCell ⟨w.heap.size + 1, 1, none⟩ (.int .i64 0)).setCell ⟨w.heap.size + 1, 2, none⟩ (.int .i64 0)).setCell ⟨w.heap.size + 1, 3, none⟩ (.slice none 0 0)).cell? ⟨w.heap.size + 1, 3, none⟩ = some (.slice none 0 0) := ((((hox.set_ 0 _).set_ 1 _).set_ 2 _).set_ 3 _).cell 3
    have hzw := hw1.size
    clear hb1
    go_wp2
    exact bodyPost_ret (v := .tuple #[.agg #[.int .i64 0, .int .i64 0, .int .i64 0, .slice none 0 0], .int .i64 x]) (by simp [results, Tryd.results6, go_sem, ye0, ye1, ye2, ye3]) rfl (HF.out _ (by repeat (first | exact Below.refl _ _ | assumption | refine Below.drew ?_ | refine below_drewN ?_ _ | refine Below.alloc ?_ (by first | omega | (simp; omega) | simp) _ | refine Below.setCell ?_ (by first | omega | (simp; omega) | simp) _)))
end Go.Proofs.YtkmcnekjimobhaaDoor
namespace Go.Proofs.YtkmcnekjimobhaaDoor
open Go.RowKit Go.Maps

/-- where a runner lies, and what of it never turns -/
structure RC where
  B : Nat
  R : Nat
  A : Option Addr
  cp : Nat
  s : ByteArray
  g : List Rl
  row : Nat → List Value
  BR : B ≤ R
/-- with so many steps left; was there too few? -/
structure Rn (c : RC) (w : World) (L : Nat) (ov : Bool) : Prop where
  blk : Blk w c.R 57 #[.slice c.A c.g.length c.cp, .string c.s, .int .i64 L, .bool ov]
  gram : GrIs w c.B c.g c.A c.cp c.row
/-- all stands but the runner -/
structure KeepR (c : RC) (w w' : World) : Prop where
  os : w'.os = w.os
  tape : w'.tape = w.tape
  output : w'.output = w.output
  size : w.heap.size ≤ w'.heap.size
  blk : ∀ k, k < w.heap.size → k ≠ c.R → w'.heap[k]? = w.heap[k]?
section
variable {c : RC} {w w' w'' : World} {L : Nat} {ov : Bool}
theorem KeepR.refl (c : RC) (w : World) : KeepR c w w := ⟨rfl, rfl, rfl, Nat.le_refl _, fun _ _ _ => rfl⟩
theorem KeepR.trans (h : KeepR c w w') (h' : KeepR c w' w'') : KeepR c w w'' :=
  ⟨h'.os.trans h.os, h'.tape.trans h.tape, h'.output.trans h.output, Nat.le_trans h.size h'.size, fun k h1 h2 => (h'.blk k (Nat.lt_of_lt_of_le h1 h.size) h2).trans (h.blk k h1 h2)⟩
theorem KeepR.of_below (h : Below w.heap.size w w') : KeepR c w w' := ⟨h.os, h.tape, h.output, h.size, fun k h1 _ => h.block k h1⟩
theorem KeepR.below (h : KeepR c w w') {B : Nat} (hB : B ≤ w.heap.size) (h1 : B ≤ c.R) : Below B w w' :=
  ⟨h.os, h.tape, h.output, h.size, fun k hk => h.blk k (by omega) (by omega)⟩
theorem KeepR.box (h : KeepR c w w') {k : Nat} {t : TypeId} {cs : Array Value} (hb : Blk w k t cs) (h1 : k ≠ c.R) : Blk w' k t cs := (h.blk k hb.lt h1).trans hb
theorem KeepR.alloc (h : KeepR c w w') (o : Obj) : KeepR c w (w'.alloc o) := h.trans (KeepR.of_below ((Below.refl _ _).alloc (Nat.le_refl _) o))
theorem KeepR.drew (h : KeepR c w w') : KeepR c w w'.drew := ⟨h.os, h.tape, h.output, h.size, h.blk⟩
theorem KeepR.set (h : KeepR c w w') (i : Nat) (u : Value) : KeepR c w (w'.setCell ⟨c.R, i, none⟩ u) :=
  h.trans ⟨rfl, rfl, rfl, by simp [World.setCell], fun k _ hk => Below.heap_setCell w' ⟨c.R, i, none⟩ u k hk⟩
theorem Rn.below (h : Rn c w L ov) (hb : Below w.heap.size w w') : Rn c w' L ov :=
  ⟨h.blk.below hb h.blk.lt, h.gram.on (hb.mono (by have := c.BR; have := h.blk.lt; omega))⟩
theorem Rn.drew (h : Rn c w L ov) : Rn c w.drew L ov := ⟨h.blk.drew, h.gram.on ((Below.refl _ _).drew)⟩
theorem Rn.alloc (h : Rn c w L ov) (o : Obj) : Rn c (w.alloc o) L ov := h.below ((Below.refl _ _).alloc (Nat.le_refl _) o)
theorem Rn.left (h : Rn c w L ov) (L' : Nat) : Rn c (w.setCell ⟨c.R, 2, none⟩ (.int .i64 L')) L' ov :=
  ⟨h.blk.set_ 2 (.int .i64 L'), h.gram.on ((Below.refl _ _).setCell c.BR _)⟩
theorem Rn.over (h : Rn c w L ov) : Rn c (w.setCell ⟨c.R, 3, none⟩ (.bool true)) L true :=
  ⟨h.blk.set_ 3 (.bool true), h.gram.on ((Below.refl _ _).setCell c.BR _)⟩
theorem Rn.c0 (h : Rn c w L ov) : w.cell? ⟨c.R, 0, none⟩ = some (.slice c.A c.g.length c.cp) := h.blk.cell 0
theorem Rn.c1 (h : Rn c w L ov) : w.cell? ⟨c.R, 1, none⟩ = some (.string c.s) := h.blk.cell 1
theorem Rn.c2 (h : Rn c w L ov) : w.cell? ⟨c.R, 2, none⟩ = some (.int .i64 L) := h.blk.cell 2
theorem Rn.c3 (h : Rn c w L ov) : w.cell? ⟨c.R, 3, none⟩ = some (.bool ov) := h.blk.cell 3
theorem Rn.fr (h : Rn c w L ov) (i : Nat) : w.frozen? ⟨c.R, i, none⟩ = false := h.blk.frozen i
end

/-- what a run leaves: it took so many steps of those that were left -/
def Gone (c : RC) (L C : Nat) (o : Option Nat) (w : World) (e : Ending) (w' : World) : Prop := Ret (if L < C then none else o) e ∧ Rn c w' (L - C) (decide (L < C)) ∧ KeepR c w w'
theorem Gone.up {c : RC} {L C : Nat} {o : Option Nat} {w w1 w' : World} {e : Ending} (h : Gone c L C o w1 e w') (hk : KeepR c w w1) : Gone c (L + 1) (1 + C) o w e w' := by
  obtain ⟨h1, h2, h3⟩ := h
  refine ⟨?_, ?_, hk.trans h3⟩
  · rw [show (if L + 1 < 1 + C then none else o) = (if L < C then none else o) from by
      by_cases hc : L < C
      · rw [if_pos hc, if_pos (by omega)]
      · rw [if_neg hc, if_neg (by omega)]]
    exact h1
  · rw [show L + 1 - (1 + C) = L - C by omega, show decide (L + 1 < 1 + C) = decide (L < C) from by rw [decide_eq_decide]; omega]
    exact h2
theorem Gone.one {c : RC} {l : Nat} {o : Option Nat} {w : World} {e : Ending} {w' : World} (hr : Ret o e) (hn : Rn c w' l false) (hk : KeepR c w w') : Gone c (l + 1) 1 o w e w' := by
  refine ⟨?_, ?_, hk⟩
  · rw [if_neg (by omega)]; exact hr
  · rw [show l + 1 - 1 = l by omega, decide_eq_false (by omega)]; exact hn

/-- a grammar that is right, a text that is not too long -/
structure RC.Fit (c : RC) : Prop where
  right : RightG c.g
  wf : ∀ r ∈ c.g, WfE r.2
  len : c.s.data.toList.length ≤ 1000
def lots : Nat := 2000000
def DoesRun (c : RC) (n : Nat) : Prop := ∀ (e : Ex) (p : Nat) (o : Option Nat) (cs : List Value) (w : World) (L : Nat), ev c.g c.s.data.toList n e p = some o → ExIs w c.B e cs → RtW c.g e → p ≤ c.s.data.toList.length → Rn c w L false → L ≤ lots →
  Calls Tryd.prog 18 #[.pointer (some ⟨c.R, 0, none⟩), .agg cs.toArray, .int .i64 p] w (Gone c L (cost c.g c.s.data.toList n (.ex e) p) o w)
/-- where a run's walk stands -/
structure RunC (c : RC) (w : World) (L : Nat) (ov : Bool) (bc : Array Value) (W : World) : Prop where
  rn : Rn c W L ov
  keeps : KeepR c w W
  box : Blk W w.heap.size 65 bc
section
variable {c : RC} {w W W' : World} {L : Nat} {ov : Bool} {bc : Array Value}
theorem RunC.drew (h : RunC c w L ov bc W) : RunC c w L ov bc W.drew := ⟨h.rn.drew, h.keeps.drew, h.box.drew⟩
theorem RunC.below (h : RunC c w L ov bc W) (hb : Below W.heap.size W W') : RunC c w L ov bc W' := ⟨h.rn.below hb, h.keeps.trans (KeepR.of_below hb), h.box.below hb h.box.lt⟩
theorem RunC.alloc (h : RunC c w L ov bc W) (o : Obj) : RunC c w L ov bc (W.alloc o) := h.below ((Below.refl _ _).alloc (Nat.le_refl _) o)
/-- a step was taken -/
theorem RunC.start {l : Nat} (h : Rn c w (l + 1) false) (bc : Array Value) : RunC c w l false bc ((w.setCell ⟨c.R, 2, none⟩ (.int .i64 l)).alloc (.cells bc 65)) :=
  ⟨(h.left l).alloc _, ((KeepR.refl c w).set 2 _).alloc _, blk_at (by simp)⟩
theorem RunC.past (h : RunC c w L ov bc W) (hR : c.R < w.heap.size) {L' : Nat} {ov' : Bool} (hp : Rn c W' L' ov') (hk : KeepR c W W') : RunC c w L' ov' bc W' := ⟨hp, h.keeps.trans hk, hk.box h.box (by omega)⟩
end
set_option maxRecDepth 100000 in
set_option maxHeartbeats 4000000 in
theorem mr_zero {c : RC} {w : World} (h : Rn c w 0 false) (bc : Array Value) (p : Nat) (C : Nat) (hC : 0 < C) (o : Option Nat) :
    Calls Tryd.prog 18 #[.pointer (some ⟨c.R, 0, none⟩), .agg bc, .int .i64 p] w (Gone c 0 C o w) := by
  have hlt := h.blk.lt
  have s2 := h.c2
  have s3 := h.c3
  have f3 := h.fr 3
  have HO := Lib.hid (h.over.alloc (.cells bc 65))
  have HK := Lib.hid (((KeepR.refl c w).set 3 (.bool true)).alloc (.cells bc 65))
  have hne : w.heap.size ≠ c.R := by omega
  clear h
  go_enter Tryd.func18, Tryd.ntmps18
  go_wp2
  go_ret2
  refine ⟨⟨0, ?_, fun tz ht => ?_⟩, ?_, HK.out⟩
  · rw [if_pos hC]; rfl
  · rw [if_pos hC] at ht; cases ht
  · rw [Nat.zero_sub, decide_eq_true hC]; exact HO.out

set_option maxRecDepth 100000 in
set_option maxHeartbeats 4000000 in
theorem mr_empty {c : RC} {w : World} {l : Nat} (h : Rn c w (l + 1) false) (hl : l + 1 ≤ lots) (a b d1 d2 : Int) (t : ByteArray) (A : Option Addr) (n cp p : Nat) :
    Calls Tryd.prog 18 #[.pointer (some ⟨c.R, 0, none⟩), .agg #[.int .i64 1, .int .u64 a, .int .u64 b, .int .u64 d1, .int .u64 d2, .string t, .slice A n cp], .int .i64 p] w (Gone c (l + 1) 1 (some p) w) := by
  have hlt := h.blk.lt
  have s2 := h.c2
  have s3 := h.c3
  have f2 := h.fr 2
  have hpl : ((l + 1 : Nat) : Int) = (l : Int) + 1 := by omega
  rw [hpl] at s2
  have hl0 : ((l : Int) + 1 == 0) = false := by rw [beq_eq_false_iff_ne]; omega
  have hne : w.heap.size ≠ c.R := by omega
  have hl' : l + 1 ≤ 2000000 := hl
  have HN := Lib.hid (RunC.start h #[.int .i64 1, .int .u64 a, .int .u64 b, .int .u64 d1, .int .u64 d2, .string t, .slice A n cp])
  clear h hl
  go_enter Tryd.func18, Tryd.ntmps18
  go_wp2
  go_ret2
  exact .one ⟨p, rfl, fun tz ht => by injection ht with ht; rw [ht]⟩ HN.out.rn HN.out.keeps
end Go.Proofs.YtkmcnekjimobhaaDoor
namespace Go.Proofs.YtkmcnekjimobhaaDoor
open Go.RowKit Go.Maps

set_option maxRecDepth 100000 in
set_option maxHeartbeats 8000000 in
theorem mr_set {c : RC} {w : World} {l : Nat} (h : Rn c w (l + 1) false) (hl : l + 1 ≤ lots) (a b d1 d2 : Nat) (ha : a < 18446744073709551616) (hb : b < 18446744073709551616) (hc : d1 < 18446744073709551616) (hd : d2 < 18446744073709551616) (t : ByteArray) (A : Option Addr) (n cp p : Nat) (hp : p ≤ c.s.data.toList.length) (hlen : c.s.data.toList.length ≤ 1000) :
    Calls Tryd.prog 18 #[.pointer (some ⟨c.R, 0, none⟩), .agg #[.int .i64 2, .int .u64 a, .int .u64 b, .int .u64 d1, .int .u64 d2, .string t, .slice A n cp], .int .i64 p] w (Gone c (l + 1) 1 (if p < c.s.data.toList.length ∧ hasE a b d1 d2 (bt c.s.data.toList p) = true then some (p + 1) else none) w) := by
  have hsz : c.s.data.toList.length = c.s.size := size_list _
  rw [hsz] at hp hlen ⊢
  have hwd : Words [a, b, d1, d2] := fun i => by
    match i with
    | 0 => exact ha
    | 1 => exact hb
    | 2 => exact hc
    | 3 => exact hd
    | i + 4 => simp
  have hlt := h.blk.lt
  have s2 := h.c2
  have s3 := h.c3
  have f2 := h.fr 2
  have hpl : ((l + 1 : Nat) : Int) = (l : Int) + 1 := by omega
  rw [hpl] at s2
  have hl0 : ((l : Int) + 1 == 0) = false := by rw [beq_eq_false_iff_ne]; omega
  have hne : w.heap.size ≠ c.R := by omega
  have hl' : l + 1 ≤ 2000000 := hl
  have HN := Lib.hid (RunC.start h #[.int .i64 2, .int .u64 a, .int .u64 b, .int .u64 d1, .int .u64 d2, .string t, .slice A n cp])
  clear h hl
  clear ha hb hc hd hsz
  have hwp : IntKind.i64.wrap ((p : Int) + 1) = (p : Int) + 1 := wrap_i64 _ (by omega) (by omega)
  by_cases hps : p < c.s.size
  · have hbt := bt_of hps
    have hh := has_any [a, b, d1, d2] hwd (bt c.s.data.toList p) (bt_lt _ _)
    unfold vals at hh
    have HX : Hid (hasE a b d1 d2 (bt c.s.data.toList p) = hasN [a, b, d1, d2] (bt c.s.data.toList p)) := by
      show _ = _
      unfold hasE
      simp only [Int.toNat_natCast]
    generalize hasN [a, b, d1, d2] (bt c.s.data.toList p) = x at hh HX
    rw [HX.out]
    generalize hO : (if p < c.s.size ∧ x = true then some (p + 1) else none) = o
    have HO := Lib.hid hO
    have hlt' : (p : Int) < (c.s.size : Int) := by omega
    have hlb : decide ((p : Int) < (c.s.size : Int)) = true := decide_eq_true hlt'
    clear HX hwd hO
    generalize bt c.s.data.toList p = y at hbt hh
    have HH := Lib.hid hh
    clear hh
    go_enter Tryd.func18, Tryd.ntmps18
    go_wp2_with fail
    refine wp_region_q (RunC c w l false #[.int .i64 2, .int .u64 a, .int .u64 b, .int .u64 d1, .int .u64 d2, .string t, .slice A n cp]) (by kernel_rfl) (by kernel_rfl) HN.out.drew ?_
    repeat
      (first | ((with_reducible apply QW.free rfl); · (intro W hW; have s1 := hW.rn.c1; have t1 := hW.box.cell 1; have t2 := hW.box.cell 2; have t3 := hW.box.cell 3; have t4 := hW.box.cell 4; go_simp; first | rfl | (go_at_call 29; refine (HH.out _).mono ?_; exact fun e w' h => ⟨h.1, hW.below h.2⟩))) | ((with_reducible apply QW.skip rfl); · (first | exact ⟨_, _, rfl, rfl, .inl rfl⟩ | exact ⟨_, _, rfl, rfl, .inr rfl⟩)) | ((with_reducible apply QW.take rfl); (· exact ⟨_, rfl, rfl⟩); (· (intro W hW; have s1 := hW.rn.c1; have t1 := hW.box.cell 1; have t2 := hW.box.cell 2; have t3 := hW.box.cell 3; have t4 := hW.box.cell 4; go_simp; first | rfl | (go_at_call 29; refine (HH.out _).mono ?_; exact fun e w' h => ⟨h.1, hW.below h.2⟩))))); (try simp only [Act.put, List.setIfInBounds_toArray, List.set_cons_zero, List.set_cons_succ])
    refine QW.nil ?_
    intro w1 h1
    go_wp2
    go_ret2
    have ho := HO.out
    cases x with
    | true =>
      rw [if_pos ⟨hps, rfl⟩] at ho
      subst ho
      exact .one ⟨((p + 1 : Nat) : Int), by simp, fun tz ht => by injection ht with ht; rw [ht]⟩ h1.rn h1.keeps
    | false =>
      rw [if_neg (by simp)] at ho
      subst ho
      exact .one ⟨((p + 1 : Nat) : Int), by simp, fun tz ht => by cases ht⟩ h1.rn h1.keeps
  · rw [if_neg (fun h => hps h.1)]
    have hlb : decide ((p : Int) < (c.s.size : Int)) = false := decide_eq_false (by omega)
    have hlt' : ((p : Int) < (c.s.size : Int)) = False := by simp; omega
    clear hwd hps
    go_enter Tryd.func18, Tryd.ntmps18
    go_wp2_with fail
    refine wp_region_q (RunC c w l false #[.int .i64 2, .int .u64 a, .int .u64 b, .int .u64 d1, .int .u64 d2, .string t, .slice A n cp]) (by kernel_rfl) (by kernel_rfl) HN.out.drew ?_
    repeat
      (first | ((with_reducible apply QW.free rfl); · (intro W hW; have s1 := hW.rn.c1; have t1 := hW.box.cell 1; have t2 := hW.box.cell 2; have t3 := hW.box.cell 3; have t4 := hW.box.cell 4; go_simp; first | rfl)) | ((with_reducible apply QW.skip rfl); · (first | exact ⟨_, _, rfl, rfl, .inl rfl⟩ | exact ⟨_, _, rfl, rfl, .inr rfl⟩)) | ((with_reducible apply QW.take rfl); (· exact ⟨_, rfl, rfl⟩); (· (intro W hW; have s1 := hW.rn.c1; have t1 := hW.box.cell 1; have t2 := hW.box.cell 2; have t3 := hW.box.cell 3; have t4 := hW.box.cell 4; go_simp; first | rfl)))); (try simp only [Act.put, List.setIfInBounds_toArray, List.set_cons_zero, List.set_cons_succ])
    refine QW.nil ?_
    intro w1 h1
    go_wp2
    go_ret2
    exact .one ⟨((p + 1 : Nat) : Int), by simp, fun tz ht => by cases ht⟩ h1.rn h1.keeps

set_option maxRecDepth 100000 in
set_option maxHeartbeats 8000000 in
theorem mr_lit {c : RC} {w : World} {l : Nat} (h : Rn c w (l + 1) false) (hl : l + 1 ≤ lots) (a b d1 d2 : Int) (t : ByteArray) (A : Option Addr) (n cp p : Nat) (hp : p ≤ c.s.data.toList.length) (hlen : c.s.data.toList.length ≤ 1000) (ht : t.size ≤ 1000) :
    Calls Tryd.prog 18 #[.pointer (some ⟨c.R, 0, none⟩), .agg #[.int .i64 3, .int .u64 a, .int .u64 b, .int .u64 d1, .int .u64 d2, .string t, .slice A n cp], .int .i64 p] w (Gone c (l + 1) 1 (if litAt c.s.data.toList p t.data.toList = true then some (p + t.size) else none) w) := by
  have hsz : c.s.data.toList.length = c.s.size := size_list _
  have hpf := hasPrefix_any (c.s.extract p c.s.size) t
  have hpe : t.data.toList.isPrefixOf (c.s.extract p c.s.size).data.toList = litAt c.s.data.toList p t.data.toList := by
    rw [Lib.extract_data, ← hsz, litAt, List.take_of_length_le (by rw [List.length_drop]; exact Nat.le_refl _)]
  rw [hpe] at hpf
  rw [hsz] at hp hlen
  have hlt := h.blk.lt
  have s2 := h.c2
  have s3 := h.c3
  have f2 := h.fr 2
  have hpl : ((l + 1 : Nat) : Int) = (l : Int) + 1 := by omega
  rw [hpl] at s2
  have hl0 : ((l : Int) + 1 == 0) = false := by rw [beq_eq_false_iff_ne]; omega
  have hne : w.heap.size ≠ c.R := by omega
  have hl' : l + 1 ≤ 2000000 := hl
  have HN := Lib.hid (RunC.start h #[.int .i64 3, .int .u64 a, .int .u64 b, .int .u64 d1, .int .u64 d2, .string t, .slice A n cp])
  clear h hl
  clear hpe hsz
  have hwp : IntKind.i64.wrap ((p : Int) + (t.size : Int)) = (p : Int) + (t.size : Int) := wrap_i64 _ (by omega) (by omega)
  have HX : Hid (litAt c.s.data.toList p t.data.toList = litAt c.s.data.toList p t.data.toList) := rfl
  generalize hx : litAt c.s.data.toList p t.data.toList = x at hpf
  generalize hO : (if x = true then some (p + t.size) else none) = o
  have HO := Lib.hid hO
  have HPF := Lib.hid hpf
  clear hpf hx HX hO
  go_enter Tryd.func18, Tryd.ntmps18
  go_wp2_with fail
  refine wp_region_q (RunC c w l false #[.int .i64 3, .int .u64 a, .int .u64 b, .int .u64 d1, .int .u64 d2, .string t, .slice A n cp]) (by kernel_rfl) (by kernel_rfl) HN.out.drew ?_
  repeat
    (first | ((with_reducible apply QW.free rfl); · (intro W hW; have s1 := hW.rn.c1; have t5 := hW.box.cell 5; go_simp; first | rfl | (go_at_call 30; refine (HPF.out _).mono ?_; exact fun e w' h => ⟨h.1, hW.below h.2⟩))) | ((with_reducible apply QW.skip rfl); · (first | exact ⟨_, _, rfl, rfl, .inl rfl⟩ | exact ⟨_, _, rfl, rfl, .inr rfl⟩)) | ((with_reducible apply QW.take rfl); (· exact ⟨_, rfl, rfl⟩); (· (intro W hW; have s1 := hW.rn.c1; have t5 := hW.box.cell 5; go_simp; first | rfl | (go_at_call 30; refine (HPF.out _).mono ?_; exact fun e w' h => ⟨h.1, hW.below h.2⟩))))); (try simp only [Act.put, List.setIfInBounds_toArray, List.set_cons_zero, List.set_cons_succ])
  refine QW.nil ?_
  intro w1 h1
  go_wp2
  go_ret2
  have ho := HO.out
  cases x with
  | true =>
    rw [if_pos rfl] at ho
    subst ho
    exact .one ⟨((p + t.size : Nat) : Int), by simp, fun tz ht => by injection ht with ht; rw [ht]⟩ h1.rn h1.keeps
  | false =>
    rw [if_neg (by simp)] at ho
    subst ho
    exact .one ⟨((p + t.size : Nat) : Int), by simp, fun tz ht => by cases ht⟩ h1.rn h1.keeps

end Go.Proofs.YtkmcnekjimobhaaDoor
namespace Go.Proofs.YtkmcnekjimobhaaDoor
open Go.RowKit Go.Maps

set_option maxRecDepth 100000 in
set_option maxHeartbeats 8000000 in
theorem mr_ref {c : RC} {w : World} {l : Nat} (h : Rn c w (l + 1) false) (hl : l + 1 ≤ lots) (a b d1 d2 : Int) (t : ByteArray) (A : Option Addr) (n cp p C : Nat) (o : Option Nat) (j : Nat) (hfd : fnd c.g t.data.toList = (j : Int)) (hj : j < c.g.length)
    (hrun : ∀ (r : Rl) (cs : List Value) (W : World), c.g[j]? = some r → ExIs W c.B r.2 cs → Rn c W l false → Calls Tryd.prog 18 #[.pointer (some ⟨c.R, 0, none⟩), .agg cs.toArray, .int .i64 p] W (Gone c l C o W)) :
    Calls Tryd.prog 18 #[.pointer (some ⟨c.R, 0, none⟩), .agg #[.int .i64 4, .int .u64 a, .int .u64 b, .int .u64 d1, .int .u64 d2, .string t, .slice A n cp], .int .i64 p] w (Gone c (l + 1) (1 + C) o w) := by
  have hBR := c.BR
  have hm := h.gram.cap
  have hle := h.gram.le
  unfold maxLen at hm
  obtain ⟨ad, nm, k', a', b', c', d', t', ks', A', cp', hA, hab, hej, hnm, hE, hS⟩ := h.gram.rule hj
  have hfn := fun W (hW : Rn c W l false) => find_any (hW.gram.more (by have := hW.blk.lt; omega)) t
  simp only [hfd, hA] at hfn
  have hcall := fun (W : World) (hW : Rn c W l false) (hb : Below c.B w W) => hrun _ _ W hej ((hE.on hb).keep (Nat.le_refl _) fun _ _ => rfl) hW
  unfold exCells at hcall
  have hcc : ∀ W, Below c.B w W → Eight W (ad.add (j * 8)) nm k' a' b' c' d' t' A' ks'.length cp' := fun W hW =>
    have hk := fun (q : Addr) (hq : q.block = (ad.add (j * 8)).block) => hW.cell (p := q) (by rw [hq, add_block]; omega)
    ⟨(hk _ rfl).trans hS.c0, (hk ⟨_, _, none⟩ rfl).trans hS.c1, (hk ⟨_, _, none⟩ rfl).trans hS.c2, (hk ⟨_, _, none⟩ rfl).trans hS.c3, (hk ⟨_, _, none⟩ rfl).trans hS.c4, (hk ⟨_, _, none⟩ rfl).trans hS.c5, (hk ⟨_, _, none⟩ rfl).trans hS.c6, (hk ⟨_, _, none⟩ rfl).trans hS.c7⟩
  have hB : c.B ≤ w.heap.size := by have := h.blk.lt; omega
  have HA := Lib.hid hA
  have hlt := h.blk.lt
  have s2 := h.c2
  have s3 := h.c3
  have f2 := h.fr 2
  have hpl : ((l + 1 : Nat) : Int) = (l : Int) + 1 := by omega
  rw [hpl] at s2
  have hl0 : ((l : Int) + 1 == 0) = false := by rw [beq_eq_false_iff_ne]; omega
  have hne : w.heap.size ≠ c.R := by omega
  have hl' : l + 1 ≤ 2000000 := hl
  have HN := Lib.hid (RunC.start h #[.int .i64 4, .int .u64 a, .int .u64 b, .int .u64 d1, .int .u64 d2, .string t, .slice A n cp])
  clear h hl
  have HFN := Lib.hid hfn
  have HC := Lib.hid hcall
  have HCC := Lib.hid hcc
  clear hfn hcall hcc hS hE hnm hej hrun hfd hA
  have hj1 : (j : Int) < (c.g.length : Int) := by omega
  go_enter Tryd.func18, Tryd.ntmps18
  go_wp2_with fail
  refine wp_region_mid (RunC c w l false #[.int .i64 4, .int .u64 a, .int .u64 b, .int .u64 d1, .int .u64 d2, .string t, .slice A n cp]) 17 _ rfl rfl (by kernel_rfl) (by kernel_rfl) HN.out.drew ?_
  simp only [List.take_succ_cons, List.take_zero]
  repeat
    (first | ((with_reducible apply QW.free rfl); · (intro W hW; have hE0 := HCC.out W (hW.keeps.below hB hBR); obtain ⟨y0, y1, y2, y3, y4, y5, y6, y7⟩ := hE0; have s0 := hW.rn.c0; rw [HA.out] at s0; have t5 := hW.box.cell 5; go_simp; first | (go_at_call 31; refine (HFN.out _ hW.rn).mono ?_; exact fun e w' h => ⟨h.1, hW.below h.2⟩) | rfl)) | ((with_reducible apply QW.skip rfl); · (first | exact ⟨_, _, rfl, rfl, .inl rfl⟩ | exact ⟨_, _, rfl, rfl, .inr rfl⟩)) | ((with_reducible apply QW.take rfl); (· exact ⟨_, rfl, rfl⟩); (· (intro W hW; have hE0 := HCC.out W (hW.keeps.below hB hBR); obtain ⟨y0, y1, y2, y3, y4, y5, y6, y7⟩ := hE0; have s0 := hW.rn.c0; rw [HA.out] at s0; have t5 := hW.box.cell 5; go_simp; first | (go_at_call 31; refine (HFN.out _ hW.rn).mono ?_; exact fun e w' h => ⟨h.1, hW.below h.2⟩) | rfl)))); (try simp only [Act.put, List.setIfInBounds_toArray, List.set_cons_zero, List.set_cons_succ])
  refine QW.nil ?_
  intro w1 h1
  have hE0 := HCC.out w1 (h1.keeps.below hB hBR)
  unfold MidCall
  go_simp
  go_at_call 18
  refine (HC.out _ h1.rn (h1.keeps.below hB hBR)).mono ?_
  rintro e w2 ⟨⟨z, rfl, hz⟩, q1, q2⟩
  generalize hv : (if l < C then none else o) = v at hz ⊢
  have HV := Lib.hid hv
  clear hv
  refine ⟨_, rfl, RunC c w (l - C) (decide (l < C)) #[.int .i64 4, .int .u64 a, .int .u64 b, .int .u64 d1, .int .u64 d2, .string t, .slice A n cp], h1.past hlt q1 q2, ?_⟩
  repeat
    (first | ((with_reducible apply QW.free rfl); · (intro W hW; go_simp; first | rfl)) | ((with_reducible apply QW.skip rfl); · (first | exact ⟨_, _, rfl, rfl, .inl rfl⟩ | exact ⟨_, _, rfl, rfl, .inr rfl⟩)) | ((with_reducible apply QW.take rfl); (· exact ⟨_, rfl, rfl⟩); (· (intro W hW; go_simp; first | rfl)))); (try simp only [Act.put, List.setIfInBounds_toArray, List.set_cons_zero, List.set_cons_succ])
  refine QW.nil ?_
  intro w3 h3
  go_wp2
  go_ret2
  exact Gone.up (w1 := w) ⟨by rw [HV.out]; exact ⟨z, rfl, hz⟩, h3.rn, h3.keeps⟩ (KeepR.refl c w)
end Go.Proofs.YtkmcnekjimobhaaDoor
namespace Go.Proofs.YtkmcnekjimobhaaDoor
open Go.RowKit Go.Maps

theorem evR_some {g : List Rl} {s : List UInt8} : ∀ (n : Nat) (e : Ex) (p : Nat) (o : Option Nat), evR g s n e p = some o → ∃ tz, o = some tz
  | 0, e, p, o, h => by cases h
  | n + 1, e, p, o, h => by
    rw [evR_s] at h
    cases he : ev g s n e p with
    | none => rw [he] at h; cases h
    | some u =>
      rw [he] at h
      cases u with
      | none => injection h with h; exact ⟨p, h.symm⟩
      | some tz => exact evR_some n e tz o h
theorem cost_rep {g : List Rl} {s : List UInt8} {n : Nat} {e : Ex} {p : Nat} {u : Option Nat} (h : ev g s n e p = some u) : cost g s (n + 1) (.rep e) p = cost g s n (.ex e) p + (u.elim 0 fun q => cost g s n (.rep e) q) := by
  have hev : evJ g s n (.ex e) p = some u := h
  cases u <;> simp only [cost, hev, Nat.add_zero, Option.elim]
theorem cost_seq {g : List Rl} {s : List UInt8} {n : Nat} {e : Ex} {es : List Ex} {p : Nat} {u : Option Nat} (h : ev g s n e p = some u) : cost g s (n + 1) (.seq (e :: es)) p = cost g s n (.ex e) p + (u.elim 0 fun q => cost g s n (.seq es) q) := by
  have hev : evJ g s n (.ex e) p = some u := h
  cases u <;> simp only [cost, hev, Nat.add_zero, Option.elim]
theorem cost_alt {g : List Rl} {s : List UInt8} {n : Nat} {e : Ex} {es : List Ex} {p : Nat} {u : Option Nat} (h : ev g s n e p = some u) : cost g s (n + 1) (.alt (e :: es)) p = cost g s n (.ex e) p + (u.elim (cost g s n (.alt es) p) fun _ => 0) := by
  have hev : evJ g s n (.ex e) p = some u := h
  cases u <;> simp only [cost, hev, Nat.add_zero, Option.elim]

/-- what again and again leaves -/
def Rep (c : RC) (L C : Nat) (tz : Nat) (w : World) (e : Ending) (w' : World) : Prop := (∃ z : Int, e = .returned (.int .i64 z) ∧ (¬ L < C → z = (tz : Int))) ∧ Rn c w' (L - C) (decide (L < C)) ∧ KeepR c w w'
def DoesAgain (c : RC) (n : Nat) : Prop := ∀ (e : Ex) (p : Nat) (tz : Nat) (cs : List Value) (w : World) (L : Nat), evR c.g c.s.data.toList n e p = some (some tz) → ExIs w c.B e cs → RtW c.g e → p ≤ c.s.data.toList.length → Rn c w L false → L ≤ lots →
  Calls Tryd.prog 32 #[.pointer (some ⟨c.R, 0, none⟩), .agg cs.toArray, .int .i64 p] w (Rep c L (cost c.g c.s.data.toList n (.rep e) p) tz w)
/-- how many steps are left -/
def leftW (c : RC) (w : World) : Nat := match w.cell? ⟨c.R, 2, none⟩ with
  | some (.int _ z) => z.toNat
  | _ => 0
theorem Rn.leftW {c : RC} {w : World} {L : Nat} {ov : Bool} (h : Rn c w L ov) : leftW c w = L := by
  unfold Go.Proofs.YtkmcnekjimobhaaDoor.leftW
  rw [h.c2]
  simp

set_option maxRecDepth 100000 in
set_option maxHeartbeats 8000000 in
theorem again_any {c : RC} (F : c.Fit) {n : Nat} (hR : ∀ m, m ≤ n → DoesRun c m) : DoesAgain c n := by
  intro e p tz cs w L hev hE hRt hp h hL
  have hlt := h.blk.lt
  have hBR := c.BR
  have hB : c.B ≤ w.heap.size := by omega
  have H := fits_of F.right
  obtain ⟨k, a, b, d1, d2, t, A, nn, cp, rfl⟩ := e.parts hE
  have hal : Below w.heap.size w (w.alloc (.cells #[.int .i64 k, .int .u64 a, .int .u64 b, .int .u64 d1, .int .u64 d2, .string t, .slice A nn cp] 65)) := (Below.refl _ _).alloc (Nat.le_refl _) _
  have h0 : RunC c w L false #[.int .i64 k, .int .u64 a, .int .u64 b, .int .u64 d1, .int .u64 d2, .string t, .slice A nn cp] (w.alloc (.cells #[.int .i64 k, .int .u64 a, .int .u64 b, .int .u64 d1, .int .u64 d2, .string t, .slice A nn cp] 65)) := ⟨h.alloc _, (KeepR.refl c w).alloc _, blk_at rfl⟩
  have hcall := fun (m q : Nat) (u : Option Nat) (L' : Nat) (W : World) (hm : m ≤ n) (he : ev c.g c.s.data.toList m e q = some u) (hq : q ≤ c.s.data.toList.length) (hW : RunC c w L' false #[.int .i64 k, .int .u64 a, .int .u64 b, .int .u64 d1, .int .u64 d2, .string t, .slice A nn cp] W) (hL' : L' ≤ lots) =>
    hR m hm e q u _ W L' he (hE.on (hW.keeps.below hB hBR)) hRt hq hW.rn hL'
  have HC := Lib.hid hcall
  generalize hC : cost c.g c.s.data.toList n (.rep e) p = C
  have HEV : Hid (evR c.g c.s.data.toList n e p = some (some tz)) := hev
  have HAC : Hid (L - cost c.g c.s.data.toList n (.rep e) p = L - C ∧ (L < cost c.g c.s.data.toList n (.rep e) p ↔ L < C)) := ⟨by rw [hC], by rw [hC]⟩
  have HT := Lib.hid (fun (m q : Nat) (u : Option Nat) (hq : q ≤ c.s.data.toList.length) (he : ev c.g c.s.data.toList m e q = some u) => (told (s := c.s.data.toList) H m).1 e q u hRt.1 hq he)
  clear hcall hC hev hR hE hRt h H F hal
  go_enter Tryd.func32, Tryd.ntmps32
  go_wp2
  go_loopw [2] (fun v wr => ∃ q m L' : Nat, v = .int .i64 q ∧ m ≤ n ∧ Hid (evR c.g c.s.data.toList m e q = some (some tz)) ∧ Hid (L' - cost c.g c.s.data.toList m (.rep e) q = L - C ∧ (L' < cost c.g c.s.data.toList m (.rep e) q ↔ L < C)) ∧ q ≤ c.s.data.toList.length ∧ L' ≤ L ∧ RunC c w L' false #[.int .i64 k, .int .u64 a, .int .u64 b, .int .u64 d1, .int .u64 d2, .string t, .slice A nn cp] wr) (fun _ wr => leftW c wr)
  case atStart => exact ⟨p, n, L, rfl, Nat.le_refl _, HEV, HAC, hp, Nat.le_refl _, h0⟩
  case round =>
    clear h0 HEV HAC hp
    obtain ⟨q, m, L', rfl, hm, HEV, HAC, hq, hLL, h0⟩ := hrel
    have hev := HEV.out
    cases m with
    | zero => cases hev
    | succ m =>
    rw [evR_s] at hev
    cases he : ev c.g c.s.data.toList m e q with
    | none => rw [he] at hev; cases hev
    | some u =>
    rw [he] at hev
    have hac := HAC.out
    rw [cost_rep he] at hac
    have hpos := cost_pos _ _ _ _ _ _ he
    have hcall := HC.out m q u L' wr (by omega) he hq h0 (by omega)
    have ht := HT.out m q u hq he
    generalize hce : cost c.g c.s.data.toList m (.ex e) q = ce at hac hpos hcall
    have HCL := Lib.hid hcall
    have HEV2 := Lib.hid hev
    have HAC2 := Lib.hid hac
    have HTT := Lib.hid ht
    have x0 : wr.cell? ⟨w.heap.size, 0, none⟩ = some (.int .i64 k) := h0.box.cell 0; have x1 : wr.cell? ⟨w.heap.size, 1, none⟩ = some (.int .u64 a) := h0.box.cell 1; have x2 : wr.cell? ⟨w.heap.size, 2, none⟩ = some (.int .u64 b) := h0.box.cell 2; have x3 : wr.cell? ⟨w.heap.size, 3, none⟩ = some (.int .u64 d1) := h0.box.cell 3; have x4 : wr.cell? ⟨w.heap.size, 4, none⟩ = some (.int .u64 d2) := h0.box.cell 4; have x5 : wr.cell? ⟨w.heap.size, 5, none⟩ = some (.string t) := h0.box.cell 5; have x6 : wr.cell? ⟨w.heap.size, 6, none⟩ = some (.slice A nn cp) := h0.box.cell 6
    clear hcall hev hac ht he HEV HAC hce
    go_wp2_with fail
    refine HCL.out.mono ?_
    rintro e' w2 ⟨⟨z, rfl, hz⟩, h1, h2⟩
    have hk2 : KeepR c w w2 := h0.keeps.trans h2
    have hac := HAC2.out
    by_cases hlc : L' < ce
    · rw [if_pos hlc] at hz ⊢
      have hLC : L < C := hac.2.1 (by omega)
      go_wp2
      go_ret
      exact ⟨⟨q, rfl, fun h => absurd hLC h⟩, by rw [show L - C = L' - ce by omega, decide_eq_true hLC]; rw [decide_eq_true hlc] at h1; exact h1, hk2⟩
    · rw [if_neg hlc] at hz ⊢
      cases u with
      | none =>
        obtain rfl : q = tz := by have := HEV2.out; simpa using this
        simp only [Option.elim_none, Nat.add_zero] at hac
        have hLC : ¬ L < C := fun hc => hlc (hac.2.2 hc)
        go_wp2
        go_ret
        exact ⟨⟨q, rfl, fun _ => rfl⟩, by rw [← hac.1, decide_eq_false hLC]; rw [decide_eq_false hlc] at h1; exact h1, hk2⟩
      | some to1 =>
        obtain rfl := hz to1 rfl
        have hto := HTT.out.2.1
        simp only [Option.elim_some] at hac
        have hn1 : Rn c w2 (L' - ce) false := by rw [decide_eq_false hlc] at h1; exact h1
        have hx2 : RunC c w (L' - ce) false #[.int .i64 k, .int .u64 a, .int .u64 b, .int .u64 d1, .int .u64 d2, .string t, .slice A nn cp] w2 := ⟨hn1, hk2, h2.box h0.box (by omega)⟩
        go_wp2
        go_roundw
        case rel => exact ⟨to1, m, L' - ce, rfl, by omega, HEV2, Lib.hid ⟨by have := hac.1; omega, fun h => hac.2.1 (by omega), fun h => by have := hac.2.2 h; omega⟩, hto, by omega, hx2⟩
        case measure =>
          rw [hn1.leftW, h0.rn.leftW]
          omega

set_option maxRecDepth 100000 in
set_option maxHeartbeats 8000000 in
theorem mr_seq {c : RC} (F : c.Fit) {n : Nat} (hR : ∀ m, m ≤ n → DoesRun c m) {w : World} {l : Nat} (h : Rn c w (l + 1) false) (hl : l + 1 ≤ lots) (a b d1 d2 : Int) (t : ByteArray) (ks : List Ex) (p : Nat) (o : Option Nat) (cs : List Value)
    (hev : evS c.g c.s.data.toList n ks p = some o) (hE : ExIs w c.B (.mk 5 a b d1 d2 t ks) cs) (hRt : ∀ e ∈ ks, RtW c.g e) (hp : p ≤ c.s.data.toList.length) :
    Calls Tryd.prog 18 #[.pointer (some ⟨c.R, 0, none⟩), .agg cs.toArray, .int .i64 p] w (Gone c (l + 1) (1 + cost c.g c.s.data.toList n (.seq ks) p) o w) := by
  have hBR := c.BR
  have hB : c.B ≤ w.heap.size := by have := h.blk.lt; omega
  have H := fits_of F.right
  obtain ⟨ht, KA, kcp, rfl, hkc, hkm, _⟩ := hE.shape
  unfold exCells
  have hlt := h.blk.lt
  have s2 := h.c2
  have s3 := h.c3
  have f2 := h.fr 2
  have hpl : ((l + 1 : Nat) : Int) = (l : Int) + 1 := by omega
  rw [hpl] at s2
  have hl0 : ((l : Int) + 1 == 0) = false := by rw [beq_eq_false_iff_ne]; omega
  have hne : w.heap.size ≠ c.R := by omega
  have hl' : l + 1 ≤ 2000000 := hl
  have HN := Lib.hid (RunC.start h #[.int .i64 5, .int .u64 a, .int .u64 b, .int .u64 d1, .int .u64 d2, .string t, .slice KA ks.length kcp])
  clear h hl
  have hm8 : ks.length ≤ 9223372036854775807 := by unfold maxLen at hkm; omega
  generalize hC : cost c.g c.s.data.toList n (.seq ks) p = C
  have HEV : Hid (evS c.g c.s.data.toList n (ks.drop 0) p = some o) := hev
  have HAC : Hid (l - cost c.g c.s.data.toList n (.seq (ks.drop 0)) p = l - C ∧ (l < cost c.g c.s.data.toList n (.seq (ks.drop 0)) p ↔ l < C)) := ⟨by rw [List.drop_zero, hC], by rw [List.drop_zero, hC]⟩
  have HT := Lib.hid (fun (m q : Nat) (u : Option Nat) (e : Ex) (hm : e ∈ ks) (hq : q ≤ c.s.data.toList.length) (he : ev c.g c.s.data.toList m e q = some u) => (told (s := c.s.data.toList) H m).1 e q u (hRt e hm).1 hq he)
  have HE := Lib.hid hE
  have HR := Lib.hid hR
  have HRT := Lib.hid hRt
  clear hC hev hR hE hRt H F
  go_enter Tryd.func18, Tryd.ntmps18
  go_wp2
  go_loopw [2, 8, 9] (fun v ok i wr => ∃ j : Nat, j ≤ ks.length ∧ i = .int .i64 j ∧
    ((ok = .bool true ∧ ∃ q m L' : Nat, v = .int .i64 q ∧ m ≤ n ∧ Hid (evS c.g c.s.data.toList m (ks.drop j) q = some o) ∧ Hid (L' - cost c.g c.s.data.toList m (.seq (ks.drop j)) q = l - C ∧ (L' < cost c.g c.s.data.toList m (.seq (ks.drop j)) q ↔ l < C)) ∧ q ≤ c.s.data.toList.length ∧ L' ≤ l ∧ RunC c w L' false #[.int .i64 5, .int .u64 a, .int .u64 b, .int .u64 d1, .int .u64 d2, .string t, .slice KA ks.length kcp] wr) ∨
     (ok = .bool false ∧ (∃ z : Int, v = .int .i64 z) ∧ Hid ((if l < C then none else o) = none) ∧ RunC c w (l - C) (decide (l < C)) #[.int .i64 5, .int .u64 a, .int .u64 b, .int .u64 d1, .int .u64 d2, .string t, .slice KA ks.length kcp] wr))) (fun _ _ i _ => ks.length - (intOf i).toNat)
  case atStart => exact ⟨0, by omega, rfl, .inl ⟨rfl, p, n, l, rfl, Nat.le_refl _, HEV, HAC, hp, Nat.le_refl _, HN.out⟩⟩
  case round =>
    clear HEV HAC hp HN s2 s3 f2
    obtain ⟨j, hj, rfl, ⟨rfl, q, m, L', rfl, hm, HEV, HAC, hq, hLL, h0⟩ | ⟨rfl, ⟨z, rfl⟩, HO, h0⟩⟩ := hrel
    · have x0 : wr.cell? ⟨w.heap.size, 0, none⟩ = some (.int .i64 5) := h0.box.cell 0; have x1 : wr.cell? ⟨w.heap.size, 1, none⟩ = some (.int .u64 a) := h0.box.cell 1; have x2 : wr.cell? ⟨w.heap.size, 2, none⟩ = some (.int .u64 b) := h0.box.cell 2; have x3 : wr.cell? ⟨w.heap.size, 3, none⟩ = some (.int .u64 d1) := h0.box.cell 3; have x4 : wr.cell? ⟨w.heap.size, 4, none⟩ = some (.int .u64 d2) := h0.box.cell 4; have x5 : wr.cell? ⟨w.heap.size, 5, none⟩ = some (.string t) := h0.box.cell 5; have x6 : wr.cell? ⟨w.heap.size, 6, none⟩ = some (.slice KA ks.length kcp) := h0.box.cell 6
      by_cases hjk : j < ks.length
      · have hbw : Below c.B w wr := h0.keeps.below hB hBR
        obtain ⟨ad, k', a', b', c', d', t', ks', A', cp', rfl, hab, hej, hE', ⟨e0, e1, e2, e3, e4, e5, e6⟩⟩ := (HE.out.on hbw).kid hjk
        have hmem := List.mem_of_getElem? hej
        have hev := HEV.out
        have hac := HAC.out
        rw [drop_of hej] at hev hac
        cases m with
        | zero => cases hev
        | succ m =>
        rw [evS_cons] at hev
        cases he : ev c.g c.s.data.toList m (.mk k' a' b' c' d' t' ks') q with
        | none => rw [he] at hev; cases hev
        | some u =>
        rw [he] at hev
        rw [cost_seq he] at hac
        have hcall := HR.out m (by omega) _ q u _ wr L' he hE' (HRT.out _ hmem) hq h0.rn (by unfold lots; omega)
        have ht := HT.out m q u _ hmem hq he
        generalize hce : cost c.g c.s.data.toList m (.ex (.mk k' a' b' c' d' t' ks')) q = ce at hac hcall
        have HCL := Lib.hid hcall
        have HEV2 := Lib.hid hev
        have HAC2 := Lib.hid hac
        have HTT := Lib.hid ht
        have hjl : (j : Int) < (ks.length : Int) := by omega
        clear hcall hev hac ht he HEV HAC hce hE' hmem hej
        go_wp2_with fail
        refine HCL.out.mono ?_
        rintro e' w2 ⟨⟨z, rfl, hz⟩, h1, h2⟩
        have hk2 : KeepR c w w2 := h0.keeps.trans h2
        have hac := HAC2.out
        have hbx2 := h2.box h0.box (by omega)
        by_cases hlc : L' < ce
        · rw [if_pos hlc] at hz ⊢
          have hLC : l < C := hac.2.1 (by omega)
          go_wp2
          go_roundw
          case rel => exact ⟨j + 1, by omega, by go_num, .inr ⟨rfl, ⟨z, rfl⟩, Lib.hid (by rw [if_pos hLC]), by rw [show l - C = L' - ce by omega, decide_eq_true hLC]; rw [decide_eq_true hlc] at h1; exact h1, hk2, hbx2⟩⟩
          case measure => simp [intOf]; omega
        · rw [if_neg hlc] at hz ⊢
          cases u with
          | none =>
            obtain rfl : o = none := by have := HEV2.out; simp at this; exact this.symm
            simp only [Option.elim_none, Nat.add_zero] at hac
            have hLC : ¬ l < C := fun hc => hlc (hac.2.2 hc)
            go_wp2
            go_roundw
            case rel => exact ⟨j + 1, by omega, by go_num, .inr ⟨rfl, ⟨z, rfl⟩, Lib.hid (by rw [if_neg hLC]), by rw [← hac.1, decide_eq_false hLC]; rw [decide_eq_false hlc] at h1; exact h1, hk2, hbx2⟩⟩
            case measure => simp [intOf]; omega
          | some to1 =>
            obtain rfl := hz to1 rfl
            have hto := HTT.out.2.1
            simp only [Option.elim_some] at hac
            have hn1 : Rn c w2 (L' - ce) false := by rw [decide_eq_false hlc] at h1; exact h1
            have hx2 : RunC c w (L' - ce) false #[.int .i64 5, .int .u64 a, .int .u64 b, .int .u64 d1, .int .u64 d2, .string t, .slice (some ad) ks.length kcp] w2 := ⟨hn1, hk2, hbx2⟩
            go_wp2
            go_roundw
            case rel => exact ⟨j + 1, by omega, by go_num, .inl ⟨rfl, to1, m, L' - ce, rfl, by omega, HEV2, Lib.hid ⟨by have := hac.1; omega, fun h => hac.2.1 (by omega), fun h => by have := hac.2.2 h; omega⟩, hto, by omega, hx2⟩⟩
            case measure => simp [intOf]; omega
      · obtain rfl : j = ks.length := by omega
        have hev := HEV.out
        have hac := HAC.out
        rw [List.drop_length] at hev hac
        have hq2 : o = some q ∧ L' = l - C ∧ ¬ l < C := by
          cases m with
          | zero => cases hev
          | succ m =>
            rw [evS_nil] at hev
            injection hev with hev
            have h0 : cost c.g c.s.data.toList (m + 1) (.seq []) q = 0 := rfl
            rw [h0] at hac
            exact ⟨hev.symm, by have := hac.1; omega, fun h => by have := hac.2.2 h; omega⟩
        obtain ⟨rfl, rfl, hLC⟩ := hq2
        go_wp2
        go_ret2
        exact Gone.up (w1 := w) ⟨by rw [if_neg hLC]; exact ⟨q, rfl, fun tz ht => by injection ht with ht; rw [ht]⟩, by rw [decide_eq_false hLC]; exact h0.rn, h0.keeps⟩ (KeepR.refl c w)
    · have x0 : wr.cell? ⟨w.heap.size, 0, none⟩ = some (.int .i64 5) := h0.box.cell 0; have x1 : wr.cell? ⟨w.heap.size, 1, none⟩ = some (.int .u64 a) := h0.box.cell 1; have x2 : wr.cell? ⟨w.heap.size, 2, none⟩ = some (.int .u64 b) := h0.box.cell 2; have x3 : wr.cell? ⟨w.heap.size, 3, none⟩ = some (.int .u64 d1) := h0.box.cell 3; have x4 : wr.cell? ⟨w.heap.size, 4, none⟩ = some (.int .u64 d2) := h0.box.cell 4; have x5 : wr.cell? ⟨w.heap.size, 5, none⟩ = some (.string t) := h0.box.cell 5; have x6 : wr.cell? ⟨w.heap.size, 6, none⟩ = some (.slice KA ks.length kcp) := h0.box.cell 6
      have hjl : (j : Int) < (ks.length : Int) ∨ ¬ (j : Int) < (ks.length : Int) := Classical.em _
      rcases hjl with hjl | hjl
      all_goals
        go_wp2
        go_ret2
        exact Gone.up (w1 := w) ⟨by rw [HO.out]; exact ⟨z, rfl, fun tz ht => by cases ht⟩, h0.rn, h0.keeps⟩ (KeepR.refl c w)
end Go.Proofs.YtkmcnekjimobhaaDoor
