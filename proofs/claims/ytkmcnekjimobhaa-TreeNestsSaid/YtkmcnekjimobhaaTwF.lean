/- tree.Of: what it answers. -/
import Derived.Test.YtkmcnekjimobhaaTwE
namespace Go.Proofs.Ytkmcnekjimobhaa
open Go.RowKit Go.Maps

def zeroTr : Value := .agg #[.int .i64 0, .int .i64 0, .int .i64 0, .slice none 0 0]
/-- what tree.Of answers -/
def TofQ (g : List Rl) (s : ByteArray) (w : World) (e : Ending) (w' : World) : Prop := Below w.heap.size w w' ∧
  ((lookG g s ≠ 0 ∧ e = .returned (.tuple #[zeroTr, .int .i64 (lookG g s)])) ∨
   (lookG g s = 0 ∧ (∃ r, g[0]? = some r ∧ Sem g s.data.toList r.2 0 none) ∧ e = .returned (.tuple #[zeroTr, .int .i64 11])) ∨
   (lookG g s = 0 ∧ ∃ (r : Rl) (n q : Nat) (V : Option Addr) (cp : Nat) (S : Nat → Prop), g[0]? = some r ∧ evJ g s.data.toList n (.ex r.2) 0 = some (some q) ∧
     e = .returned (.tuple #[.agg #[.int .i64 0, .int .i64 0, .int .i64 q, .slice V (trJ g s.data.toList n (.ex r.2) 0).length cp], .int .i64 0]) ∧
     TrIs w' S (.mk 0 0 q (trJ g s.data.toList n (.ex r.2) 0)) [.int .i64 0, .int .i64 0, .int .i64 q, .slice V (trJ g s.data.toList n (.ex r.2) 0).length cp] ∧ ∀ b, S b → w.heap.size ≤ b ∧ b < w'.heap.size))

theorem run_out0 (b : Bool) (z : Int) (w : World) : Sem.run Try.prog (Instr.field 41 (.agg #[.bool b, .int .i64 z]) 0) w = .ok (.bool b) w := by kernel_rfl

set_option maxRecDepth 100000 in
set_option maxHeartbeats 8000000 in
theorem tof_any {g : List Rl} {A : Option Addr} {cp : Nat} {row : Nat → List Value} {w : World} (h : GrIs w w.heap.size g A cp row) (hwf : ∀ r ∈ g, WfE r.2) (s : ByteArray) :
    Calls Try.prog 11 #[.agg #[.slice A g.length cp], .string s] w (TofQ g s w) := by
  have hlk := fun W (hW : Below w.heap.size w W) => mlook_any ((h.on hW).more hW.size) s
  have HLK := Lib.hid hlk
  have HG := Lib.hid h
  have HWF := Lib.hid hwf
  clear hlk h hwf
  generalize hQ : TofQ g s w = Q
  have HQ := Lib.hid hQ
  clear hQ
  by_cases hl0 : lookG g s = 0
  · obtain ⟨W, h60⟩ := look_zero hl0
    rw [hl0] at HLK
    have HL0 := Lib.hid hl0
    have HW := Lib.hid W
    have h10 := W.right.ten
    have hpos := W.right.pos
    clear hl0 W
    obtain ⟨r, hr⟩ : ∃ r, g[0]? = some r := ⟨_, List.getElem?_eq_getElem hpos⟩
    have hsl : s.data.toList.length = s.size := size_list s
    obtain ⟨n, o, hev⟩ := ends (s := s.data.toList) HW.out (p := 0) (by omega) (HW.out.good (List.mem_of_getElem? hr))
    obtain ⟨m, σ1, hpk, hag, _⟩ := goes_rule (hook := false) (fits_of HW.out.right) (by omega) hr hev (fun n0 _ o ho σ num hσ => (goes (fits_of HW.out.right) n0).1 r.2 0 o (HW.out.right.rt r (List.mem_of_getElem? hr)) (by omega) ho σ num hσ) (agree0 g s.data.toList)
    have hbd := (pk_bound _ _ _ _ _ _ _ _ _ hpk (by omega) (bound0 _)).2
    have hnew := fun W (hW : Below w.heap.size w W) => new_any ((HG.out.on hW).more hW.size) hpos h10 (sixty_of HW.out.right) s
    have HN := Lib.hid hnew
    have HPK := Lib.hid hpk
    have HEV := Lib.hid hev
    have HAG := Lib.hid hag
    have HBD := Lib.hid hbd
    have HR := Lib.hid hr
    clear hnew hpk hev hag hbd hr
    go_enter Try.func11, Try.ntmps11
    go_wp2_with fail
    refine (HLK.out _ (by repeat (first | exact Below.refl _ _ | assumption | refine Below.drew ?_ | refine below_drewN ?_ _ | refine Below.alloc ?_ (by first | omega | (simp; omega) | simp) _ | refine Below.setCell ?_ (by first | omega | (simp; omega) | simp) _))).mono ?_
    rintro e w1 ⟨rfl, hb1⟩
    have hw1 : Below w.heap.size w w1 := (((Below.refl _ w).alloc (Nat.le_refl _) _).alloc (by simp) _).trans (hb1.mono (by simp; omega))
    have hgx : Blk w1 w.heap.size 24 #[.slice A g.length cp] := ((blk_at rfl).alloc _).below hb1 (by simp; omega)
    have hox : Blk w1 (w.heap.size + 1) 27 #[.int .i64 0, .int .i64 0, .int .i64 0, .slice none 0 0] := (blk_at (by simp)).below hb1 (by simp)
    have g0 : w1.cell? ⟨w.heap.size, 0, none⟩ = some (.slice A g.length cp) := hgx.cell 0
    clear hb1
    go_wp2_with fail
    refine (HN.out _ hw1).mono ?_
    rintro e w2 ⟨c, hcg, hcs, hch, ⟨hhk, hlm, -⟩, rfl, hok, hpar, hb2, hcB⟩
    have hw2 : Below w.heap.size w w2 := hw1.trans (hb2.mono hw1.size)
    have hox2 := hox.below hb2 hox.lt
    have F : c.Fit := PC.fit (by rw [hcg]; exact HW.out) (by rw [hcs]; exact h60) hok hhk hlm hch (by rw [hcg]; exact HWF.out)
    have hal : Below w2.heap.size w2 (w2.alloc (.cells #[.pointer (some ⟨c.P, 0, none⟩)] 92)) := (by repeat (first | exact Below.refl _ _ | assumption | refine Below.drew ?_ | refine below_drewN ?_ _ | refine Below.alloc ?_ (by first | omega | (simp; omega) | simp) _ | refine Below.setCell ?_ (by first | omega | (simp; omega) | simp) _))
    have hru := (does F m).2.2 0 0 ps0 (o, σ1) (w2.alloc (.cells #[.pointer (some ⟨c.P, 0, none⟩)] 92)) (by rw [hcg, hcs, hhk]; exact HPK.out) (by rw [hcg]; exact hpos) (by omega) (bound0 _) (hpar.below hok hal)
    have HRU := Lib.hid hru
    have hzw := hw1.size
    have hxl := hox.lt
    have hBP := hok.BP
    have hBM := hok.BM
    have hBb := hok.Bb
    have hPs := hpar.size
    have hPb := hok.P
    have hMb := hok.M
    have hz12 := hb2.size
    have hbb : Blk (w2.alloc (.cells #[.pointer (some ⟨c.P, 0, none⟩)] 92)) w2.heap.size 92 #[.pointer (some ⟨c.P, 0, none⟩)] := blk_at rfl
    have hox3 := hox2.alloc (.cells #[.pointer (some ⟨c.P, 0, none⟩)] 92)
    have hw3 : Below w.heap.size w (w2.alloc (.cells #[.pointer (some ⟨c.P, 0, none⟩)] 92)) := hw2.alloc (by omega) _
    have hs3 : w2.heap.size < (w2.alloc (.cells #[.pointer (some ⟨c.P, 0, none⟩)] 92)).heap.size := by simp
    clear hru hb2 hal hpar hox2 hw2
    go_upto_region 5 with fail
    generalize (w2.alloc (.cells #[.pointer (some ⟨c.P, 0, none⟩)] 92)) = w3 at HRU hbb hox3 hw3 hs3 ⊢
    generalize w2.heap.size = bb at hbb hPs hz12 hs3 ⊢
    have b0 := hbb.cell 0
    go_wp2_with fail
    refine HRU.out.mono ?_
    rintro e w4 ⟨⟨v, rfl, hv⟩, q1, q2⟩
    obtain ⟨b, z, hbn⟩ : ∃ (b : Bool) (z : Int), outV v = .agg #[.bool b, .int .i64 z] := by cases v <;> exact ⟨_, _, rfl⟩
    have hbo : b = o.isSome := by
      simp only at hv
      rw [hv]
      cases v with
      | none => simp [outV] at hbn; exact hbn.1
      | some k => simp [outV] at hbn; exact hbn.1
    have hox4 : Blk w4 (w.heap.size + 1) 27 #[.int .i64 0, .int .i64 0, .int .i64 0, .slice none 0 0] := q2.box hox3 (by decide) (by omega) (by omega)
    have hbb4 := q2.box hbb (by decide) (by omega) (by omega)
    have hw4 : Below w.heap.size w w4 := hw3.trans (q2.below (by omega) (by omega) (by omega) (by omega))
    have hpp4 : PP c w4 := ⟨σ1, q1, by rw [hcg, hcs]; exact HAG.out, by rw [hcs]; exact HBD.out⟩
    have hs4 := q2.size
    have hrf := run_out0
    rw [hbn]
    clear q1 q2 HRU hbn hv hbb hox3 b0
    cases o with
    | none =>
      obtain rfl : b = false := hbo
      have yz0 : w4.cell? ⟨w.heap.size + 1, 0, none⟩ = some (.int .i64 0) := hox4.cell 0; have yz1 : w4.cell? ⟨w.heap.size + 1, 1, none⟩ = some (.int .i64 0) := hox4.cell 1; have yz2 : w4.cell? ⟨w.heap.size + 1, 2, none⟩ = some (.int .i64 0) := hox4.cell 2; have yz3 : w4.cell? ⟨w.heap.size + 1, 3, none⟩ = some (.slice none 0 0) := hox4.cell 3; have yf0 := hox4.frozen 0; have yf1 := hox4.frozen 1; have yf2 := hox4.frozen 2; have yf3 := hox4.frozen 3; have ye0 : (w4.setCell ⟨w.heap.size + 1, 0, none⟩ (.int .i64 0)).cell? ⟨w.heap.size + 1, 0, none⟩ = some (.int .i64 0) := (hox4.set_ 0 _).cell 0; have ye1 : ((w4.setCell ⟨w.heap.size + 1, 0, none⟩ (.int .i64 0)).setCell ⟨w.heap.size + 1, 1, none⟩ (.int .i64 0)).cell? ⟨w.heap.size + 1, 1, none⟩ = some (.int .i64 0) := ((hox4.set_ 0 _).set_ 1 _).cell 1; have ye2 : (((w4.setCell ⟨w.heap.size + 1, 0, none⟩ (.int .i64 0)).setCell ⟨w.heap.size + 1, 1, none⟩ (.int .i64 0)).setCell ⟨w.heap.size + 1, 2, none⟩ (.int .i64 0)).cell? ⟨w.heap.size + 1, 2, none⟩ = some (.int .i64 0) := (((hox4.set_ 0 _).set_ 1 _).set_ 2 _).cell 2; have ye3 : ((((w4.setCell ⟨w.heap.size + 1, 0, none⟩ (.int .i64 0)).setCell ⟨w.heap.size + 1, 1, none⟩ (.int .i64 0)).setCell ⟨w.heap.size + 1, 2, none⟩ (.int .i64 0)).setCell ⟨w.heap.size + 1, 3, none⟩ (.slice none 0 0)).cell? ⟨w.heap.size + 1, 3, none⟩ = some (.slice none 0 0) := ((((hox4.set_ 0 _).set_ 1 _).set_ 2 _).set_ 3 _).cell 3
      have HF : Hid (∀ W', Below w.heap.size w W' → Q (.returned (.tuple #[.agg #[.int .i64 0, .int .i64 0, .int .i64 0, .slice none 0 0], .int .i64 11])) W') := fun W' hb => HQ.out ▸ ⟨hb, .inr (.inl ⟨HL0.out, ⟨r, HR.out, n, HEV.out⟩, rfl⟩)⟩
      clear HQ hpp4 hbb4 F
      go_wp2
      exact bodyPost_ret (v := .tuple #[.agg #[.int .i64 0, .int .i64 0, .int .i64 0, .slice none 0 0], .int .i64 11]) (by simp [results, Try.results11, go_sem, ye0, ye1, ye2, ye3]) rfl (HF.out _ (by repeat (first | exact Below.refl _ _ | assumption | refine Below.drew ?_ | refine below_drewN ?_ _ | refine Below.alloc ?_ (by first | omega | (simp; omega) | simp) _ | refine Below.setCell ?_ (by first | omega | (simp; omega) | simp) _)))
    | some q =>
      obtain rfl : b = true := hbo
      have htr := trule_any F (by rw [hcg]; exact HW.out) (by rw [hcs]; omega) (twalks F (by rw [hcg]; exact HW.out) (by rw [hcs]; omega) n) 0 0 q r bb w4 (by rw [hcg]; exact HR.out) (by rw [hcg, hcs]; exact HEV.out) (by omega) hpp4 ⟨hPs, hbb4⟩
      rw [hcg, hcs] at htr
      have HTR := Lib.hid htr
      clear htr
      go_wp2_with fail
      refine HTR.out.mono ?_
      rintro e w5 ⟨hpp5, hk5, V, cv, S, rfl, htr, hsp⟩
      have hox5 := hk5.box hox4 (by decide) (by omega) (by omega)
      have hw5 : Below w.heap.size w w5 := hw4.trans (hk5.below (by omega) (by omega) (by omega) (by omega))
      generalize hKS : trJ g s.data.toList n (.ex r.2) 0 = KS at htr ⊢
      have yz0 : w5.cell? ⟨w.heap.size + 1, 0, none⟩ = some (.int .i64 0) := hox5.cell 0; have yz1 : w5.cell? ⟨w.heap.size + 1, 1, none⟩ = some (.int .i64 0) := hox5.cell 1; have yz2 : w5.cell? ⟨w.heap.size + 1, 2, none⟩ = some (.int .i64 0) := hox5.cell 2; have yz3 : w5.cell? ⟨w.heap.size + 1, 3, none⟩ = some (.slice none 0 0) := hox5.cell 3; have yf0 := hox5.frozen 0; have yf1 := hox5.frozen 1; have yf2 := hox5.frozen 2; have yf3 := hox5.frozen 3; have ye0 : (w5.setCell ⟨w.heap.size + 1, 0, none⟩ (.int .i64 0)).cell? ⟨w.heap.size + 1, 0, none⟩ = some (.int .i64 0) := (hox5.set_ 0 _).cell 0; have ye1 : ((w5.setCell ⟨w.heap.size + 1, 0, none⟩ (.int .i64 0)).setCell ⟨w.heap.size + 1, 1, none⟩ (.int .i64 0)).cell? ⟨w.heap.size + 1, 1, none⟩ = some (.int .i64 0) := ((hox5.set_ 0 _).set_ 1 _).cell 1; have ye2 : (((w5.setCell ⟨w.heap.size + 1, 0, none⟩ (.int .i64 0)).setCell ⟨w.heap.size + 1, 1, none⟩ (.int .i64 0)).setCell ⟨w.heap.size + 1, 2, none⟩ (.int .i64 q)).cell? ⟨w.heap.size + 1, 2, none⟩ = some (.int .i64 q) := (((hox5.set_ 0 _).set_ 1 _).set_ 2 _).cell 2; have ye3 : ((((w5.setCell ⟨w.heap.size + 1, 0, none⟩ (.int .i64 0)).setCell ⟨w.heap.size + 1, 1, none⟩ (.int .i64 0)).setCell ⟨w.heap.size + 1, 2, none⟩ (.int .i64 q)).setCell ⟨w.heap.size + 1, 3, none⟩ (.slice V KS.length cv)).cell? ⟨w.heap.size + 1, 3, none⟩ = some (.slice V KS.length cv) := ((((hox5.set_ 0 _).set_ 1 _).set_ 2 _).set_ 3 _).cell 3
      have hheap : ∀ b, w.heap.size + 1 ≠ b → ((((w5.setCell ⟨w.heap.size + 1, 0, none⟩ (.int .i64 0)).setCell ⟨w.heap.size + 1, 1, none⟩ (.int .i64 0)).setCell ⟨w.heap.size + 1, 2, none⟩ (.int .i64 q)).setCell ⟨w.heap.size + 1, 3, none⟩ (.slice V KS.length cv)).heap[b]? = w5.heap[b]? := fun b hb => by
        rw [Below.heap_setCell _ _ _ _ (Ne.symm hb), Below.heap_setCell _ _ _ _ (Ne.symm hb), Below.heap_setCell _ _ _ _ (Ne.symm hb), Below.heap_setCell _ _ _ _ (Ne.symm hb)]
      have HT := Lib.hid (htr.keep (S' := S) (fun _ h => h) fun p hp => World.cell?_of_block (hheap _ (by have := (hsp _ hp).1; omega)))
      have HF : Hid (∀ W', W' = ((((w5.setCell ⟨w.heap.size + 1, 0, none⟩ (.int .i64 0)).setCell ⟨w.heap.size + 1, 1, none⟩ (.int .i64 0)).setCell ⟨w.heap.size + 1, 2, none⟩ (.int .i64 q)).setCell ⟨w.heap.size + 1, 3, none⟩ (.slice V KS.length cv)) → Below w.heap.size w W' → Q (.returned (.tuple #[.agg #[.int .i64 0, .int .i64 0, .int .i64 q, .slice V KS.length cv], .int .i64 0])) W') := fun W' he hb => HQ.out ▸ ⟨hb, .inr (.inr ⟨HL0.out, r, n, q, V, cv, S, HR.out, HEV.out, by rw [hKS], by rw [hKS, he]; exact HT.out, fun b hb => by
        obtain ⟨h1, cs, h2⟩ := hsp b hb
        rw [he]
        have := h2.lt
        exact ⟨by omega, by simpa [World.setCell] using this⟩⟩)⟩
      clear HQ hpp4 hbb4 F HT htr hsp hk5 hpp5 hheap hKS HTR
      go_wp2
      exact bodyPost_ret (v := .tuple #[.agg #[.int .i64 0, .int .i64 0, .int .i64 q, .slice V KS.length cv], .int .i64 0]) (by simp [results, Try.results11, go_sem, ye0, ye1, ye2, ye3]) rfl (HF.out _ rfl (by repeat (first | exact Below.refl _ _ | assumption | refine Below.drew ?_ | refine below_drewN ?_ _ | refine Below.alloc ?_ (by first | omega | (simp; omega) | simp) _ | refine Below.setCell ?_ (by first | omega | (simp; omega) | simp) _)))
  · have hxb : (lookG g s != 0) = true := by rw [bne_iff_ne]; exact hl0
    have HF : Hid (∀ W', Below w.heap.size w W' → Q (.returned (.tuple #[.agg #[.int .i64 0, .int .i64 0, .int .i64 0, .slice none 0 0], .int .i64 (lookG g s)])) W') := fun W' hb => HQ.out ▸ ⟨hb, .inl ⟨hl0, rfl⟩⟩
    generalize lookG g s = x at HLK HF hxb
    clear hl0 HQ
    go_enter Try.func11, Try.ntmps11
    go_wp2_with fail
    refine (HLK.out _ (by repeat (first | exact Below.refl _ _ | assumption | refine Below.drew ?_ | refine below_drewN ?_ _ | refine Below.alloc ?_ (by first | omega | (simp; omega) | simp) _ | refine Below.setCell ?_ (by first | omega | (simp; omega) | simp) _))).mono ?_
    rintro e w1 ⟨rfl, hb1⟩
    have hw1 : Below w.heap.size w w1 := (((Below.refl _ w).alloc (Nat.le_refl _) _).alloc (by simp) _).trans (hb1.mono (by simp; omega))
    have hox : Blk w1 (w.heap.size + 1) 27 #[.int .i64 0, .int .i64 0, .int .i64 0, .slice none 0 0] := (blk_at (by simp)).below hb1 (by simp)
    have yz0 : w1.cell? ⟨w.heap.size + 1, 0, none⟩ = some (.int .i64 0) := hox.cell 0; have yz1 : w1.cell? ⟨w.heap.size + 1, 1, none⟩ = some (.int .i64 0) := hox.cell 1; have yz2 : w1.cell? ⟨w.heap.size + 1, 2, none⟩ = some (.int .i64 0) := hox.cell 2; have yz3 : w1.cell? ⟨w.heap.size + 1, 3, none⟩ = some (.slice none 0 0) := hox.cell 3; have yf0 := hox.frozen 0; have yf1 := hox.frozen 1; have yf2 := hox.frozen 2; have yf3 := hox.frozen 3; have ye0 : (w1.setCell ⟨w.heap.size + 1, 0, none⟩ (.int .i64 0)).cell? ⟨w.heap.size + 1, 0, none⟩ = some (.int .i64 0) := (hox.set_ 0 _).cell 0; have ye1 : ((w1.setCell ⟨w.heap.size + 1, 0, none⟩ (.int .i64 0)).setCell ⟨w.heap.size + 1, 1, none⟩ (.int .i64 0)).cell? ⟨w.heap.size + 1, 1, none⟩ = some (.int .i64 0) := ((hox.set_ 0 _).set_ 1 _).cell 1; have ye2 : (((w1.setCell ⟨w.heap.size + 1, 0, none⟩ (.int .i64 0)).setCell ⟨w.heap.size + 1, 1, none⟩ (.int .i64 0)).setCell ⟨w.heap.size + 1, 2, none⟩ (.int .i64 0)).cell? ⟨w.heap.size + 1, 2, none⟩ = some (.int .i64 0) := (((hox.set_ 0 _).set_ 1 _).set_ 2 _).cell 2; have ye3 : ((((w1.setCell ⟨w.heap.size + 1, 0, none⟩ (.int .i64 0)).setCell ⟨w.heap.size + 1, 1, none⟩ (.int .i64 0)).setCell ⟨w.heap.size + 1, 2, none⟩ (.int .i64 0)).setCell ⟨w.heap.size + 1, 3, none⟩ (.slice none 0 0)).cell? ⟨w.heap.size + 1, 3, none⟩ = some (.slice none 0 0) := ((((hox.set_ 0 _).set_ 1 _).set_ 2 _).set_ 3 _).cell 3
    have hzw := hw1.size
    clear hb1
    go_wp2
    exact bodyPost_ret (v := .tuple #[.agg #[.int .i64 0, .int .i64 0, .int .i64 0, .slice none 0 0], .int .i64 x]) (by simp [results, Try.results11, go_sem, ye0, ye1, ye2, ye3]) rfl (HF.out _ (by repeat (first | exact Below.refl _ _ | assumption | refine Below.drew ?_ | refine below_drewN ?_ _ | refine Below.alloc ?_ (by first | omega | (simp; omega) | simp) _ | refine Below.setCell ?_ (by first | omega | (simp; omega) | simp) _)))
end Go.Proofs.Ytkmcnekjimobhaa
