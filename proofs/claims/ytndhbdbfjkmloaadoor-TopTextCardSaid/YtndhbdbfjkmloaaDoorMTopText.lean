/- tree.Of: what it answers. The law PackRest: plain; outcomes compared; what stands ahead makes no difference. list.Accepts: what it answers; the errors that a look may tell. chafftop.begun. The trees of a meaning do not hang on the fuel. Plain. The walk of the law TopText. The law TopText: for every input it returns true, and each argument reads afterwards as it read before. The frame is written by a program of ours after the guide's own shell; the walk is in the text it imports. Conditions: none but the statement's own. -/
import Derived.Test.YtndhbdbfjkmloaaDoorJTopText27
import Derived.Test.YtndhbdbfjkmloaaDoorJTopText24
import Derived.Test.YtndhbdbfjkmloaaDoorJTopText7
import Derived.BigQuiet
import Derived.Deep.QuietTactic
import Derived.Test.YtndhbdbfjkmloaaDoorJTopText16
import Derived.Test.YtndhbdbfjkmloaaDoorJTopText21
import Derived.Test.YtndhbdbfjkmloaaDoorJTopText25
import Derived.Test.YtndhbdbfjkmloaaDoorRows
import Derived.Test.YtndhbdbfjkmloaaDoorJTopText2
import Derived.Test.YtndhbdbfjkmloaaDoorTie
import Derived.Test.YtndhbdbfjkmloaaDoorCards
import Derived.LaidMore
import Derived.OpenShut
import Derived.Stop.Joined
import Derived.LaidHandle
import Derived.MakeChecks
import Derived.SevenTiedAt
namespace Go.Proofs.YtndhbdbfjkmloaaDoor
set_option maxHeartbeats 8000000
set_option maxRecDepth 100000
open Go.RowKit Go.Maps
def zeroTr : Value := .agg #[.int .i64 0, .int .i64 0, .int .i64 0, .slice none 0 0]
def TofQ (g : List Rl) (s : ByteArray) (w : World) (e : Ending) (w' : World) : Prop := Below w.heap.size w w' /\
  ((lookG g s ≠ 0 /\ e = .returned (.tuple #[zeroTr, .int .i64 (lookG g s)])) \/
   (lookG g s = 0 /\ (∃ r, g[0]? = some r /\ Sem g s.data.toList r.2 0 none) /\ e = .returned (.tuple #[zeroTr, .int .i64 11])) \/
   (lookG g s = 0 /\ ∃ (r : Rl) (n q : Nat) (V : Option Addr) (cp : Nat) (S : Nat -> Prop), g[0]? = some r /\ evJ g s.data.toList n (.ex r.2) 0 = some (some q) /\
     e = .returned (.tuple #[.agg #[.int .i64 0, .int .i64 0, .int .i64 q, .slice V (trJ g s.data.toList n (.ex r.2) 0).length cp], .int .i64 0]) /\
     TrIs w' S (.mk 0 0 q (trJ g s.data.toList n (.ex r.2) 0)) [.int .i64 0, .int .i64 0, .int .i64 q, .slice V (trJ g s.data.toList n (.ex r.2) 0).length cp] /\ ∀ b, S b -> w.heap.size <= b /\ b < w'.heap.size))
theorem run_out0 (b : Bool) (z : Int) (w : World) : Sem.run Tryd.prog (Instr.field 101 (.agg #[.bool b, .int .i64 z]) 0) w = .ok (.bool b) w := by kernel_rfl
theorem tof_any {g : List Rl} {A : Option Addr} {cp : Nat} {row : Nat -> List Value} {w : World} (h : GrIs w w.heap.size g A cp row) (hwf : ∀ r ∈ g, WfE r.2) (s : ByteArray) :
    Calls Tryd.prog 26 #[.agg #[.slice A g.length cp], .string s] w (TofQ g s w) := by
  have hlk := fun W (hW : Below w.heap.size w W) => mlook_any ((h.on hW).more hW.size) s
  have HLK := Lib.hid hlk
  have HG := Lib.hid h
  have HWF := Lib.hid hwf
  clear hlk h hwf
  generalize hQ : TofQ g s w = Q
  have HQ := Lib.hid hQ
  clear hQ
  by_cases hl0 : lookG g s = 0
  · obtain ⟨W, h60⟩ := look_zero hl0
    rw [hl0] at HLK
    have HL0 := Lib.hid hl0
    have HW := Lib.hid W
    have h10 := W.right.ten
    have hpos := W.right.pos
    clear hl0 W
    obtain ⟨r, hr⟩ : ∃ r, g[0]? = some r := ⟨_, List.getElem?_eq_getElem hpos⟩
    have hsl : s.data.toList.length = s.size := size_list s
    obtain ⟨n, o, hev⟩ := ends (s := s.data.toList) HW.out (p := 0) (by omega) (HW.out.good (List.mem_of_getElem? hr))
    obtain ⟨m, σ1, hpk, hag, _⟩ := goes_rule (hook := false) (fits_of HW.out.right) (by omega) hr hev (fun n0 _ o ho σ num hσ => (goes (fits_of HW.out.right) n0).1 r.2 0 o (HW.out.right.rt r (List.mem_of_getElem? hr)) (by omega) ho σ num hσ) (agree0 g s.data.toList)
    have hbd := (pk_bound _ _ _ _ _ _ _ _ _ hpk (by omega) (bound0 _)).2
    have hnew := fun W (hW : Below w.heap.size w W) => new_any ((HG.out.on hW).more hW.size) hpos h10 (sixty_of HW.out.right) s
    have HN := Lib.hid hnew
    have HPK := Lib.hid hpk
    have HEV := Lib.hid hev
    have HAG := Lib.hid hag
    have HBD := Lib.hid hbd
    have HR := Lib.hid hr
    clear hnew hpk hev hag hbd hr
    go_enter Tryd.func26, Tryd.ntmps26
    go_wp2_with fail
    refine (HLK.out _ bl).mono ?_
    rintro e w1 ⟨rfl, hb1⟩
    have hw1 : Below w.heap.size w w1 := (((Below.refl _ w).alloc (Nat.le_refl _) _).alloc (by simp) _).trans (hb1.mono (by simp; omega))
    have hgx : Blk w1 w.heap.size 39 #[.slice A g.length cp] := ((blk_at rfl).alloc _).below hb1 (by simp; omega)
    have hox : Blk w1 (w.heap.size + 1) 60 #[.int .i64 0, .int .i64 0, .int .i64 0, .slice none 0 0] := (blk_at (by simp)).below hb1 (by simp)
    have g0 : w1.cell? ⟨w.heap.size, 0, none⟩ = some (.slice A g.length cp) := hgx.cell 0
    clear hb1
    go_wp2_with fail
    refine (HN.out _ hw1).mono ?_
    rintro e w2 ⟨c, hcg, hcs, hch, ⟨hhk, hlm, -⟩, rfl, hok, hpar, hb2, hcB⟩
    have hw2 : Below w.heap.size w w2 := hw1.trans (hb2.mono hw1.size)
    have hox2 := hox.below hb2 hox.lt
    have F : c.Fit := PC.fit (by rw [hcg]; exact HW.out) (by rw [hcs]; exact h60) hok hhk hlm hch (by rw [hcg]; exact HWF.out)
    have hal : Below w2.heap.size w2 (w2.alloc (.cells #[.pointer (some ⟨c.P, 0, none⟩)] 99)) := bl
    have hru := (does F m).2.2 0 0 ps0 (o, σ1) (w2.alloc (.cells #[.pointer (some ⟨c.P, 0, none⟩)] 99)) (by rw [hcg, hcs, hhk]; exact HPK.out) (by rw [hcg]; exact hpos) (by omega) (bound0 _) (hpar.below hok hal)
    have HRU := Lib.hid hru
    have hzw := hw1.size
    have hxl := hox.lt
    have hBP := hok.BP
    have hBM := hok.BM
    have hBb := hok.Bb
    have hPs := hpar.size
    have hPb := hok.P
    have hMb := hok.M
    have hz12 := hb2.size
    have hbb : Blk (w2.alloc (.cells #[.pointer (some ⟨c.P, 0, none⟩)] 99)) w2.heap.size 99 #[.pointer (some ⟨c.P, 0, none⟩)] := blk_at rfl
    have hox3 := hox2.alloc (.cells #[.pointer (some ⟨c.P, 0, none⟩)] 99)
    have hw3 : Below w.heap.size w (w2.alloc (.cells #[.pointer (some ⟨c.P, 0, none⟩)] 99)) := hw2.alloc (by omega) _
    have hs3 : w2.heap.size < (w2.alloc (.cells #[.pointer (some ⟨c.P, 0, none⟩)] 99)).heap.size := by simp
    clear hru hb2 hal hpar hox2 hw2
    go_upto_region 5 with fail
    generalize (w2.alloc (.cells #[.pointer (some ⟨c.P, 0, none⟩)] 99)) = w3 at HRU hbb hox3 hw3 hs3 ⊢
    generalize w2.heap.size = bb at hbb hPs hz12 hs3 ⊢
    have b0 := hbb.cell 0
    go_wp2_with fail
    refine HRU.out.mono ?_
    rintro e w4 ⟨⟨v, rfl, hv⟩, q1, q2⟩
    obtain ⟨b, z, hbn⟩ : ∃ (b : Bool) (z : Int), outV v = .agg #[.bool b, .int .i64 z] := by cases v <;> exact ⟨_, _, rfl⟩
    have hbo : b = o.isSome := by
      simp only at hv
      rw [hv]
      cases v with
      | none => simp [outV] at hbn; exact hbn.1
      | some k => simp [outV] at hbn; exact hbn.1
    have hox4 : Blk w4 (w.heap.size + 1) 60 #[.int .i64 0, .int .i64 0, .int .i64 0, .slice none 0 0] := q2.box hox3 (by decide) (by omega) (by omega)
    have hbb4 := q2.box hbb (by decide) (by omega) (by omega)
    have hw4 : Below w.heap.size w w4 := hw3.trans (q2.below (by omega) (by omega) (by omega) (by omega))
    have hpp4 : PP c w4 := ⟨σ1, q1, by rw [hcg, hcs]; exact HAG.out, by rw [hcs]; exact HBD.out⟩
    have hs4 := q2.size
    have hrf := run_out0
    rw [hbn]
    clear q1 q2 HRU hbn hv hbb hox3 b0
    cases o with
    | none =>
      obtain rfl : b = false := hbo
      have yz0 : w4.cell? ⟨w.heap.size + 1, 0, none⟩ = some (.int .i64 0) := hox4.cell 0; have yz1 : w4.cell? ⟨w.heap.size + 1, 1, none⟩ = some (.int .i64 0) := hox4.cell 1; have yz2 : w4.cell? ⟨w.heap.size + 1, 2, none⟩ = some (.int .i64 0) := hox4.cell 2; have yz3 : w4.cell? ⟨w.heap.size + 1, 3, none⟩ = some (.slice none 0 0) := hox4.cell 3; have yf0 := hox4.frozen 0; have yf1 := hox4.frozen 1; have yf2 := hox4.frozen 2; have yf3 := hox4.frozen 3; have ye0 : (w4.setCell ⟨w.heap.size + 1, 0, none⟩ (.int .i64 0)).cell? ⟨w.heap.size + 1, 0, none⟩ = some (.int .i64 0) := (hox4.set_ 0 _).cell 0; have ye1 : ((w4.setCell ⟨w.heap.size + 1, 0, none⟩ (.int .i64 0)).setCell ⟨w.heap.size + 1, 1, none⟩ (.int .i64 0)).cell? ⟨w.heap.size + 1, 1, none⟩ = some (.int .i64 0) := ((hox4.set_ 0 _).set_ 1 _).cell 1; have ye2 : (((w4.setCell ⟨w.heap.size + 1, 0, none⟩ (.int .i64 0)).setCell ⟨w.heap.size + 1, 1, none⟩ (.int .i64 0)).setCell ⟨w.heap.size + 1, 2, none⟩ (.int .i64 0)).cell? ⟨w.heap.size + 1, 2, none⟩ = some (.int .i64 0) := (((hox4.set_ 0 _).set_ 1 _).set_ 2 _).cell 2; have ye3 : ((((w4.setCell ⟨w.heap.size + 1, 0, none⟩ (.int .i64 0)).setCell ⟨w.heap.size + 1, 1, none⟩ (.int .i64 0)).setCell ⟨w.heap.size + 1, 2, none⟩ (.int .i64 0)).setCell ⟨w.heap.size + 1, 3, none⟩ (.slice none 0 0)).cell? ⟨w.heap.size + 1, 3, none⟩ = some (.slice none 0 0) := ((((hox4.set_ 0 _).set_ 1 _).set_ 2 _).set_ 3 _).cell 3
      have HF : Hid (∀ W', Below w.heap.size w W' -> Q (.returned (.tuple #[.agg #[.int .i64 0, .int .i64 0, .int .i64 0, .slice none 0 0], .int .i64 11])) W') := fun W' hb => HQ.out ▸ ⟨hb, .inr (.inl ⟨HL0.out, ⟨r, HR.out, n, HEV.out⟩, rfl⟩)⟩
      clear HQ hpp4 hbb4 F
      go_wp2
      exact bodyPost_ret (v := .tuple #[.agg #[.int .i64 0, .int .i64 0, .int .i64 0, .slice none 0 0], .int .i64 11]) (by simp [results, Tryd.results26, go_sem, ye0, ye1, ye2, ye3]) rfl (HF.out _ bl)
    | some q =>
      obtain rfl : b = true := hbo
      have htr := trule_any F (by rw [hcg]; exact HW.out) (by rw [hcs]; omega) (twalks F (by rw [hcg]; exact HW.out) (by rw [hcs]; omega) n) 0 0 q r bb w4 (by rw [hcg]; exact HR.out) (by rw [hcg, hcs]; exact HEV.out) (by omega) hpp4 ⟨hPs, hbb4⟩
      rw [hcg, hcs] at htr
      have HTR := Lib.hid htr
      clear htr
      go_wp2_with fail
      refine HTR.out.mono ?_
      rintro e w5 ⟨hpp5, hk5, V, cv, S, rfl, htr, hsp⟩
      have hox5 := hk5.box hox4 (by decide) (by omega) (by omega)
      have hw5 : Below w.heap.size w w5 := hw4.trans (hk5.below (by omega) (by omega) (by omega) (by omega))
      generalize hKS : trJ g s.data.toList n (.ex r.2) 0 = KS at htr ⊢
      have yz0 : w5.cell? ⟨w.heap.size + 1, 0, none⟩ = some (.int .i64 0) := hox5.cell 0; have yz1 : w5.cell? ⟨w.heap.size + 1, 1, none⟩ = some (.int .i64 0) := hox5.cell 1; have yz2 : w5.cell? ⟨w.heap.size + 1, 2, none⟩ = some (.int .i64 0) := hox5.cell 2; have yz3 : w5.cell? ⟨w.heap.size + 1, 3, none⟩ = some (.slice none 0 0) := hox5.cell 3; have yf0 := hox5.frozen 0; have yf1 := hox5.frozen 1; have yf2 := hox5.frozen 2; have yf3 := hox5.frozen 3; have ye0 : (w5.setCell ⟨w.heap.size + 1, 0, none⟩ (.int .i64 0)).cell? ⟨w.heap.size + 1, 0, none⟩ = some (.int .i64 0) := (hox5.set_ 0 _).cell 0; have ye1 : ((w5.setCell ⟨w.heap.size + 1, 0, none⟩ (.int .i64 0)).setCell ⟨w.heap.size + 1, 1, none⟩ (.int .i64 0)).cell? ⟨w.heap.size + 1, 1, none⟩ = some (.int .i64 0) := ((hox5.set_ 0 _).set_ 1 _).cell 1; have ye2 : (((w5.setCell ⟨w.heap.size + 1, 0, none⟩ (.int .i64 0)).setCell ⟨w.heap.size + 1, 1, none⟩ (.int .i64 0)).setCell ⟨w.heap.size + 1, 2, none⟩ (.int .i64 q)).cell? ⟨w.heap.size + 1, 2, none⟩ = some (.int .i64 q) := (((hox5.set_ 0 _).set_ 1 _).set_ 2 _).cell 2; have ye3 : ((((w5.setCell ⟨w.heap.size + 1, 0, none⟩ (.int .i64 0)).setCell ⟨w.heap.size + 1, 1, none⟩ (.int .i64 0)).setCell ⟨w.heap.size + 1, 2, none⟩ (.int .i64 q)).setCell ⟨w.heap.size + 1, 3, none⟩ (.slice V KS.length cv)).cell? ⟨w.heap.size + 1, 3, none⟩ = some (.slice V KS.length cv) := ((((hox5.set_ 0 _).set_ 1 _).set_ 2 _).set_ 3 _).cell 3
      have hheap : ∀ b, w.heap.size + 1 ≠ b -> ((((w5.setCell ⟨w.heap.size + 1, 0, none⟩ (.int .i64 0)).setCell ⟨w.heap.size + 1, 1, none⟩ (.int .i64 0)).setCell ⟨w.heap.size + 1, 2, none⟩ (.int .i64 q)).setCell ⟨w.heap.size + 1, 3, none⟩ (.slice V KS.length cv)).heap[b]? = w5.heap[b]? := fun b hb => by
        rw [Below.heap_setCell _ _ _ _ (Ne.symm hb), Below.heap_setCell _ _ _ _ (Ne.symm hb), Below.heap_setCell _ _ _ _ (Ne.symm hb), Below.heap_setCell _ _ _ _ (Ne.symm hb)]
      have HT := Lib.hid (htr.keep (S' := S) (fun _ h => h) fun p hp => World.cell?_of_block (hheap _ (by have := (hsp _ hp).1; omega)))
      have HF : Hid (∀ W', W' = ((((w5.setCell ⟨w.heap.size + 1, 0, none⟩ (.int .i64 0)).setCell ⟨w.heap.size + 1, 1, none⟩ (.int .i64 0)).setCell ⟨w.heap.size + 1, 2, none⟩ (.int .i64 q)).setCell ⟨w.heap.size + 1, 3, none⟩ (.slice V KS.length cv)) -> Below w.heap.size w W' -> Q (.returned (.tuple #[.agg #[.int .i64 0, .int .i64 0, .int .i64 q, .slice V KS.length cv], .int .i64 0])) W') := fun W' he hb => HQ.out ▸ ⟨hb, .inr (.inr ⟨HL0.out, r, n, q, V, cv, S, HR.out, HEV.out, by rw [hKS], by rw [hKS, he]; exact HT.out, fun b hb => by
        obtain ⟨h1, cs, h2⟩ := hsp b hb
        rw [he]
        have := h2.lt
        exact ⟨by omega, by simpa [World.setCell] using this⟩⟩)⟩
      clear HQ hpp4 hbb4 F HT htr hsp hk5 hpp5 hheap hKS HTR
      go_wp2
      exact bodyPost_ret (v := .tuple #[.agg #[.int .i64 0, .int .i64 0, .int .i64 q, .slice V KS.length cv], .int .i64 0]) (by simp [results, Tryd.results26, go_sem, ye0, ye1, ye2, ye3]) rfl (HF.out _ rfl bl)
  · have hxb : (lookG g s != 0) = true := by rw [bne_iff_ne]; exact hl0
    have HF : Hid (∀ W', Below w.heap.size w W' -> Q (.returned (.tuple #[.agg #[.int .i64 0, .int .i64 0, .int .i64 0, .slice none 0 0], .int .i64 (lookG g s)])) W') := fun W' hb => HQ.out ▸ ⟨hb, .inl ⟨hl0, rfl⟩⟩
    generalize lookG g s = x at HLK HF hxb
    clear hl0 HQ
    go_enter Tryd.func26, Tryd.ntmps26
    go_wp2_with fail
    refine (HLK.out _ bl).mono ?_
    rintro e w1 ⟨rfl, hb1⟩
    have hw1 : Below w.heap.size w w1 := (((Below.refl _ w).alloc (Nat.le_refl _) _).alloc (by simp) _).trans (hb1.mono (by simp; omega))
    have hox : Blk w1 (w.heap.size + 1) 60 #[.int .i64 0, .int .i64 0, .int .i64 0, .slice none 0 0] := (blk_at (by simp)).below hb1 (by simp)
    have yz0 : w1.cell? ⟨w.heap.size + 1, 0, none⟩ = some (.int .i64 0) := hox.cell 0; have yz1 : w1.cell? ⟨w.heap.size + 1, 1, none⟩ = some (.int .i64 0) := hox.cell 1; have yz2 : w1.cell? ⟨w.heap.size + 1, 2, none⟩ = some (.int .i64 0) := hox.cell 2; have yz3 : w1.cell? ⟨w.heap.size + 1, 3, none⟩ = some (.slice none 0 0) := hox.cell 3; have yf0 := hox.frozen 0; have yf1 := hox.frozen 1; have yf2 := hox.frozen 2; have yf3 := hox.frozen 3; have ye0 : (w1.setCell ⟨w.heap.size + 1, 0, none⟩ (.int .i64 0)).cell? ⟨w.heap.size + 1, 0, none⟩ = some (.int .i64 0) := (hox.set_ 0 _).cell 0; have ye1 : ((w1.setCell ⟨w.heap.size + 1, 0, none⟩ (.int .i64 0)).setCell ⟨w.heap.size + 1, 1, none⟩ (.int .i64 0)).cell? ⟨w.heap.size + 1, 1, none⟩ = some (.int .i64 0) := ((hox.set_ 0 _).set_ 1 _).cell 1; have ye2 : (((w1.setCell ⟨w.heap.size + 1, 0, none⟩ (.int .i64 0)).setCell ⟨w.heap.size + 1, 1, none⟩ (.int .i64 0)).setCell ⟨w.heap.size + 1, 2, none⟩ (.int .i64 0)).cell? ⟨w.heap.size + 1, 2, none⟩ = some (.int .i64 0) := (((hox.set_ 0 _).set_ 1 _).set_ 2 _).cell 2; have ye3 : ((((w1.setCell ⟨w.heap.size + 1, 0, none⟩ (.int .i64 0)).setCell ⟨w.heap.size + 1, 1, none⟩ (.int .i64 0)).setCell ⟨w.heap.size + 1, 2, none⟩ (.int .i64 0)).setCell ⟨w.heap.size + 1, 3, none⟩ (.slice none 0 0)).cell? ⟨w.heap.size + 1, 3, none⟩ = some (.slice none 0 0) := ((((hox.set_ 0 _).set_ 1 _).set_ 2 _).set_ 3 _).cell 3
    have hzw := hw1.size
    clear hb1
    go_wp2
    exact bodyPost_ret (v := .tuple #[.agg #[.int .i64 0, .int .i64 0, .int .i64 0, .slice none 0 0], .int .i64 x]) (by simp [results, Tryd.results26, go_sem, ye0, ye1, ye2, ye3]) rfl (HF.out _ bl)
theorem outV_eq (v : Option Nat) : outV v = .agg #[.bool v.isSome, .int .i64 (v.getD 0 : Nat)] := by cases v <;> rfl
section
variable {g : List Rl} (a s : List UInt8)
end
section
variable {g : List Rl} {s : List UInt8} {hook : Bool} {fs : List Fa}
theorem pk_goesA (H : Fits g fs) {n m num p : Nat} {e : Ex} {u u' : Option Nat} {σ σ1 : PS} (hrt : Rt g e) (hp : p <= s.length) (he : ev g s n e p = some u) (hσ : Agree g s σ) (h : pk g s hook m (.try_ e num) p σ = some (u', σ1)) : u' = u /\ Agree g s σ1 := by
  obtain ⟨m0, σ0, h0, ha, _⟩ := ((goes (hook := hook) H n).1 e p u hrt hp he σ num hσ).try_
  have e1 := pk_le h0 (Nat.le_max_left m0 m)
  have e2 := pk_le h (Nat.le_max_right m0 m)
  rw [e1] at e2
  injection e2 with e2
  injection e2 with e2 e3
  subst e2 e3
  exact ⟨rfl, ha⟩
end
theorem sem_run {g : List Rl} (W : WellG g) {s : List UInt8} {n m : Nat} {r : Rl} {o o' : Option Nat} {σ1 : PS} (hr : g[0]? = some r) (he : ev g s n r.2 0 = some o) (hpk : pk g s false m (.rule 0) 0 ps0 = some (o', σ1)) : o' = o := by
  cases m with
  | zero => cases hpk
  | succ m =>
    have H := fits_of W.right
    have hrt := W.right.rt r (List.mem_of_getElem? hr)
    simp only [pk] at hpk
    have h0 : recall ps0.seen (0, 0) = none := rfl
    rw [h0, hr] at hpk
    simp only at hpk
    cases hq : pk g s false m (.try_ r.2 (firstN g 0)) 0 ps0 with
    | none => rw [hq] at hpk; cases hpk
    | some x =>
      obtain ⟨u, σ2⟩ := x
      obtain ⟨rfl, _⟩ := pk_goesA (hook := false) H hrt (Nat.zero_le _) he (agree0 g s) hq
      rw [hq] at hpk
      simp only at hpk
      split at hpk
      · cases hpk
      · simp only [Option.some.injEq, Prod.mk.injEq] at hpk
        obtain ⟨rfl, rfl⟩ := hpk
        rfl
noncomputable def outG (g : List Rl) (s : ByteArray) : Option Nat := Classical.epsilon fun o => ∃ r, g[0]? = some r /\ Sem g s.data.toList r.2 0 o
theorem outG_is {g : List Rl} {s : ByteArray} {r : Rl} {o : Option Nat} (hr : g[0]? = some r) (h : Sem g s.data.toList r.2 0 o) : outG g s = o := by
  obtain ⟨r', hr', h'⟩ := Classical.epsilon_spec (p := fun o => ∃ r, g[0]? = some r /\ Sem g s.data.toList r.2 0 o) ⟨o, r, hr, h⟩
  rw [hr] at hr'
  injection hr' with hr'
  subst hr'
  exact h'.eq h
theorem run_out {g : List Rl} {s : ByteArray} (hl0 : lookG g s = 0) {m : Nat} {o : Option Nat} {σ1 : PS} (h : pk g s.data.toList false m (.rule 0) 0 ps0 = some (o, σ1)) : outG g s = o /\ ∀ k, o = some k -> k <= s.size := by
  obtain ⟨W, h60⟩ := look_zero hl0
  have hpos := W.right.pos
  obtain ⟨r, hr⟩ : ∃ r, g[0]? = some r := ⟨_, List.getElem?_eq_getElem hpos⟩
  obtain ⟨n, o', he⟩ := ends (s := s.data.toList) W (p := 0) (by omega) (W.good (List.mem_of_getElem? hr))
  obtain rfl := sem_run W hr he h
  refine ⟨outG_is hr ⟨n, he⟩, fun k hk => ?_⟩
  have ht := (told (s := s.data.toList) (fits_of W.right) n).1 r.2 0 o (W.right.rt r (List.mem_of_getElem? hr)) (by omega) he
  rw [hk] at ht
  have := ht.2.1
  rw [size_list] at this
  exact this
noncomputable def accG (g : List Rl) (s : ByteArray) : Bool := decide (lookG g s = 0) && ((outG g s).isSome && decide ((outG g s).getD 0 = s.size))
theorem acc_any {g : List Rl} {A : Option Addr} {cp : Nat} {row : Nat -> List Value} {w : World} (h : GrIs w w.heap.size g A cp row) (hwf : ∀ r ∈ g, WfE r.2) (s : ByteArray) :
    Calls Tryd.prog 44 #[.agg #[.slice A g.length cp], .string s] w fun e w' => e = .returned (.tuple #[.bool (accG g s), .int .i64 (lookG g s)]) /\ Below w.heap.size w w' := by
  have hrn := fun W (hW : Below w.heap.size w W) => run_any (h.grow hW) hwf s
  have HR := Lib.hid hrn
  generalize hY : accG g s = Y
  generalize hX : lookG g s = X
  have HY := Lib.hid hY
  have HX := Lib.hid hX
  clear hrn h hwf hX hY
  go_enter Tryd.func44, Tryd.ntmps44
  go_wp2_with fail
  refine (HR.out _ bl).mono ?_
  rintro e w1 ⟨hb1, hq⟩
  have hw1 : Below w.heap.size w w1 := ((Below.refl _ w).alloc (Nat.le_refl _) _).trans (hb1.mono (by simp))
  have hz1 := hw1.size
  clear hb1
  rcases hq with ⟨hne, rfl⟩ | ⟨hl0, o, σ1, V, lc, l', ⟨m, hpk⟩, ha, ht, hl, rfl, ho⟩
  · rw [HX.out] at hne ⊢
    have hxb : (X == 0) = false := by rw [beq_eq_false_iff_ne]; exact hne
    obtain rfl : Y = false := by rw [<- HY.out]; unfold accG; rw [HX.out, decide_eq_false hne, Bool.false_and]
    rw [outV_eq]
    clear hne HX HY
    go_wp2
    go_ret2
    exact ⟨rfl, bl⟩
  · clear ha ht hl ho
    obtain ⟨h1, h2⟩ := run_out hl0 hpk
    have hy : Y = (o.isSome && decide (o.getD 0 = s.size)) := by rw [<- HY.out]; unfold accG; rw [hl0, h1]; rfl
    obtain rfl : X = 0 := by rw [<- HX.out]; exact hl0
    rw [outV_eq]
    clear hl0 hpk h1 h2 HX HY
    generalize σ1.log.length = ll
    cases o with
    | none =>
      obtain rfl : Y = false := hy
      go_wp2
      go_ret2
      exact ⟨rfl, bl⟩
    | some k =>
      have hy2 : Y = decide (k = s.size) := hy
      have hk : ((k : Int) == (s.size : Int)) = decide (k = s.size) := by rw [Bool.eq_iff_iff]; simp; omega
      rw [<- hk] at hy2
      clear hk hy
      subst hy2
      simp only [Option.isSome_some, Option.getD_some]
      go_wp2
      go_ret2
      exact ⟨rfl, bl⟩
def xG1 : List Rl := [(nameA, litE ⟨#[120]⟩)]
theorem x1_look : lookG xG1 ⟨#[120]⟩ = 0 := by decide +kernel
theorem x1_ev : ev xG1 [120] 3 (litE ⟨#[120]⟩) 0 = some (some 1) := by decide +kernel
theorem x1_acc : accG xG1 ⟨#[120]⟩ = true := by
  unfold accG
  rw [x1_look, outG_is (r := (nameA, litE ⟨#[120]⟩)) rfl ⟨3, x1_ev⟩]
  rfl
theorem wf_litT (t : ByteArray) : WfE (litE t) := .mk _ _ _ _ _ _ _ (by unfold I64; omega) (by unfold U64; omega) (by unfold U64; omega) (by unfold U64; omega) (by unfold U64; omega) (fun e he => by cases he)
theorem topx1_any (w : World) : Calls Tryd.prog 45 #[] w fun e' w' => ∃ b, e' = .returned (.agg #[.slice (some ⟨b, 0, none⟩) 1 1]) /\ GrIs w' w'.heap.size xG1 (some ⟨b, 0, none⟩) 1 (fun _ => exCells 3 0 0 0 0 ⟨#[120]⟩ none 0 0) /\ Below w.heap.size w w' := by
  go_enter Tryd.func45, Tryd.ntmps45
  go_wp2
  refine bodyPost_ret (v := .agg #[.slice (some ⟨w.heap.size + 1, 0, none⟩) 1 1]) (by simp [results, Tryd.results45, go_sem]) rfl ⟨w.heap.size + 1, rfl, gr_one (cs := #[.string nameA, .int .i64 3, .int .u64 0, .int .u64 0, .int .u64 0, .int .u64 0, .string ⟨#[120]⟩, .slice none 0 0]) (by decide) (litE_is _ ⟨#[120]⟩ (by decide)) (blk_at (by simp)) rfl, bl⟩
theorem begun1_any (w : World) : Calls Tryd.prog 24 #[] w fun e w' => e = .returned (.bool true) /\ Below w.heap.size w w' := by
  have hx := fun W => topx1_any W
  have HX := Lib.hid hx
  clear hx
  go_enter Tryd.func24, Tryd.ntmps24
  go_wp2_with fail
  refine (HX.out _).mono ?_
  rintro e w1 ⟨b, rfl, hG, hb1⟩
  have hac := acc_any hG (fun r hr => by unfold xG1 at hr; rw [List.mem_singleton] at hr; subst hr; exact wf_litT _) ⟨#[120]⟩
  rw [x1_acc, x1_look] at hac
  have HA := Lib.hid hac
  clear hac hG
  go_wp2_with fail
  refine HA.out.mono ?_
  rintro e w2 ⟨rfl, hb2⟩
  have hw2 := hb1.trans (hb2.mono hb1.size)
  go_wp2
  go_ret
  exact ⟨rfl, hw2⟩
end Go.Proofs.YtndhbdbfjkmloaaDoor
namespace Go.Proofs.YtndhbdbfjkmloaaDoor
set_option maxRecDepth 100000
theorem tr_monoT (g : List Rl) (s : List UInt8) : ∀ (n : Nat) (j : Job) (p : Nat) (o : Option Nat), evJ g s n j p = some o -> evJ g s (n + 1) j p = some o /\ trJ g s (n + 1) j p = trJ g s n j p := by
  intro n
  induction n with
  | zero => intro j p o h; cases h
  | succ n ih =>
    intro j p o h
    cases j with
    | ex e =>
      obtain ⟨k, a, b, c, d, t, ks⟩ := e
      refine ⟨(ev_mono g s _).1 _ _ _ h, ?_⟩
      have h' : ev g s (n + 1) (.mk k a b c d t ks) p = some o := h
      rw [ev_s] at h'
      show (if k = 1 \/ k = 2 \/ k = 3 then [] else if k = 4 then _ else if k = 5 then _ else if k = 6 then _ else _) = (if k = 1 \/ k = 2 \/ k = 3 then [] else if k = 4 then _ else if k = 5 then _ else if k = 6 then _ else _)
      by_cases k3 : k = 1 \/ k = 2 \/ k = 3
      · rw [if_pos k3, if_pos k3]
      rw [if_neg k3, if_neg k3]
      rw [if_neg (fun h => k3 (.inl h)), if_neg (fun h => k3 (.inr (.inl h))), if_neg (fun h => k3 (.inr (.inr h)))] at h'
      by_cases k4 : k = 4
      · rw [if_pos k4, if_pos k4]
        rw [if_pos k4] at h'
        cases hg : g[(fnd g t.data.toList).toNat]? with
        | none => rfl
        | some r =>
          rw [hg] at h'
          have hi := ih _ _ _ (show evJ g s n (.ex r.2) p = some o from h')
          simp only [hi.1, hi.2, show evJ g s n (.ex r.2) p = some o from h']
      rw [if_neg k4, if_neg k4]
      rw [if_neg k4] at h'
      by_cases k5 : k = 5
      · rw [if_pos k5, if_pos k5]
        rw [if_pos k5] at h'
        exact (ih _ _ _ h').2
      rw [if_neg k5, if_neg k5]
      rw [if_neg k5] at h'
      by_cases k6 : k = 6
      · rw [if_pos k6, if_pos k6]
        rw [if_pos k6] at h'
        exact (ih _ _ _ h').2
      rw [if_neg k6, if_neg k6]
      rw [if_neg k6] at h'
      cases ks with
      | nil => rfl
      | cons e es => exact (ih _ _ _ h').2
    | kid k e =>
      refine ⟨(ev_mono g s _).2.1 _ _ _ _ h, ?_⟩
      have h' : evK g s (n + 1) k e p = some o := h
      rw [evK_s] at h'
      show (if k = 7 then _ else if k = 8 then _ else if k = 9 then _ else _) = (if k = 7 then _ else if k = 8 then _ else if k = 9 then _ else _)
      by_cases k7 : k = 7
      · rw [if_pos k7, if_pos k7]
        rw [if_pos k7] at h'
        exact (ih _ _ _ h').2
      rw [if_neg k7, if_neg k7]
      rw [if_neg k7] at h'
      cases he : evJ g s n (.ex e) p with
      | none => rw [show ev g s n e p = none from he] at h'; cases h'
      | some u =>
        rw [show ev g s n e p = some u from he] at h'
        obtain ⟨i1, i2⟩ := ih _ _ _ he
        by_cases k8 : k = 8
        · rw [if_pos k8, if_pos k8]
          cases u with
          | none => simp only [i1]
          | some tq =>
            simp only at h'
            rw [if_pos k8] at h'
            have i3 := (ih _ _ _ (show evJ g s n (.rep e) tq = some o from h')).2
            simp only [i1, i2, i3]
        rw [if_neg k8, if_neg k8]
        by_cases k9 : k = 9
        · rw [if_pos k9, if_pos k9]
          cases u with
          | none => simp only [i1]
          | some tq => simp only [i1, i2]
        · rw [if_neg k9, if_neg k9]
    | seq es =>
      refine ⟨(ev_mono g s _).2.2.1 _ _ _ h, ?_⟩
      cases es with
      | nil => rfl
      | cons e es =>
        have h' : evS g s (n + 1) (e :: es) p = some o := h
        rw [evS_cons] at h'
        cases he : evJ g s n (.ex e) p with
        | none => rw [show ev g s n e p = none from he] at h'; cases h'
        | some u =>
          rw [show ev g s n e p = some u from he] at h'
          obtain ⟨i1, i2⟩ := ih _ _ _ he
          show (match evJ g s (n + 1) (.ex e) p with | some (some tq) => _ | _ => _) = (match evJ g s n (.ex e) p with | some (some tq) => _ | _ => _)
          cases u with
          | none => simp only [i1, he]
          | some tq =>
            have i3 := (ih _ _ _ (show evJ g s n (.seq es) tq = some o from h')).2
            simp only [i1, he, i2, i3]
    | alt es =>
      refine ⟨(ev_mono g s _).2.2.2.1 _ _ _ h, ?_⟩
      cases es with
      | nil => rfl
      | cons e es =>
        have h' : evA g s (n + 1) (e :: es) p = some o := h
        rw [evA_cons] at h'
        cases he : evJ g s n (.ex e) p with
        | none => rw [show ev g s n e p = none from he] at h'; cases h'
        | some u =>
          rw [show ev g s n e p = some u from he] at h'
          obtain ⟨i1, i2⟩ := ih _ _ _ he
          show (match evJ g s (n + 1) (.ex e) p with | some (some _) => _ | some none => _ | none => _) = (match evJ g s n (.ex e) p with | some (some _) => _ | some none => _ | none => _)
          cases u with
          | none =>
            have i3 := (ih _ _ _ (show evJ g s n (.alt es) p = some o from h')).2
            simp only [i1, he, i3]
          | some tq => simp only [i1, he, i2]
    | rep e =>
      refine ⟨(ev_mono g s _).2.2.2.2 _ _ _ h, ?_⟩
      have h' : evR g s (n + 1) e p = some o := h
      rw [evR_s] at h'
      cases he : evJ g s n (.ex e) p with
      | none => rw [show ev g s n e p = none from he] at h'; cases h'
      | some u =>
        rw [show ev g s n e p = some u from he] at h'
        obtain ⟨i1, i2⟩ := ih _ _ _ he
        show (match evJ g s (n + 1) (.ex e) p with | some (some tq) => _ | _ => _) = (match evJ g s n (.ex e) p with | some (some tq) => _ | _ => _)
        cases u with
        | none => simp only [i1, he]
        | some tq =>
          have i3 := (ih _ _ _ (show evJ g s n (.rep e) tq = some o from h')).2
          simp only [i1, he, i2, i3]
theorem tr_leT {g : List Rl} {s : List UInt8} {n m : Nat} {j : Job} {p : Nat} {o : Option Nat} (h : evJ g s n j p = some o) (hm : n <= m) : evJ g s m j p = some o /\ trJ g s m j p = trJ g s n j p := by
  induction hm with
  | refl => exact ⟨h, rfl⟩
  | step _ ih =>
    obtain ⟨h1, h2⟩ := tr_monoT g s _ _ _ _ ih.1
    exact ⟨h1, h2.trans ih.2⟩
theorem tr_eqT {g : List Rl} {s : List UInt8} {n m : Nat} {e : Ex} {p q r : Nat} (h : evJ g s n (.ex e) p = some (some q)) (h' : evJ g s m (.ex e) p = some (some r)) : q = r /\ trJ g s n (.ex e) p = trJ g s m (.ex e) p := by
  obtain ⟨a1, a2⟩ := tr_leT h (Nat.le_max_left n m)
  obtain ⟨b1, b2⟩ := tr_leT h' (Nat.le_max_right n m)
  rw [a1] at b1
  exact ⟨by injection b1 with b1; injection b1, a2.symm.trans b2⟩
end Go.Proofs.YtndhbdbfjkmloaaDoor
namespace Go.Proofs.YtndhbdbfjkmloaaDoor
set_option maxHeartbeats 4000000
set_option maxRecDepth 100000
open Go.RowKit Go.Maps
def TofV (g : List Rl) (s : ByteArray) (t : Tr) (x : Int) : Prop :=
  (lookG g s ≠ 0 /\ t = .mk 0 0 0 [] /\ x = lookG g s) \/
  (lookG g s = 0 /\ (∃ r, g[0]? = some r /\ Sem g s.data.toList r.2 0 none) /\ t = .mk 0 0 0 [] /\ x = 11) \/
  (lookG g s = 0 /\ ∃ (r : Rl) (n q : Nat), g[0]? = some r /\ evJ g s.data.toList n (.ex r.2) 0 = some (some q) /\ t = .mk 0 0 q (trJ g s.data.toList n (.ex r.2) 0) /\ x = 0)
theorem TofV.uniq {g : List Rl} {s : ByteArray} {t t' : Tr} {x x' : Int} (h : TofV g s t x) (h' : TofV g s t' x') : t = t' /\ x = x' := by
  rcases h with ⟨a, b, c⟩ | ⟨a, ⟨r, hr, hs⟩, b, c⟩ | ⟨a, r, n, q, hr, he, b, c⟩
  · rcases h' with ⟨a', b', c'⟩ | ⟨a', _, b', c'⟩ | ⟨a', _⟩
    · exact ⟨b.trans b'.symm, c.trans c'.symm⟩
    · exact absurd a' a
    · exact absurd a' a
  · rcases h' with ⟨a', b', c'⟩ | ⟨a', _, b', c'⟩ | ⟨a', r', n', q', hr', he', b', c'⟩
    · exact absurd a a'
    · exact ⟨b.trans b'.symm, c.trans c'.symm⟩
    · rw [hr] at hr'
      injection hr' with hr'
      subst hr'
      obtain ⟨m, hs⟩ := hs
      have h1 := ev_eq hs he'
      cases h1
  · rcases h' with ⟨a', b', c'⟩ | ⟨a', ⟨r', hr', m, hs⟩, b', c'⟩ | ⟨a', r', n', q', hr', he', b', c'⟩
    · exact absurd a a'
    · rw [hr] at hr'
      injection hr' with hr'
      subst hr'
      have h1 := ev_eq hs he
      cases h1
    · rw [hr] at hr'
      injection hr' with hr'
      subst hr'
      obtain ⟨h1, h2⟩ := tr_eqT he he'
      subst h1
      rw [h2] at b
      exact ⟨b.trans b'.symm, c.trans c'.symm⟩
def TofS (g : List Rl) (s : ByteArray) (w : World) (e : Ending) (w' : World) : Prop := Below w.heap.size w w' /\ ∃ (t : Tr) (x r f u : Int) (A : Option Addr) (n cp : Nat) (S : Nat -> Prop),
  TofV g s t x /\ e = .returned (.tuple #[.agg #[.int .i64 r, .int .i64 f, .int .i64 u, .slice A n cp], .int .i64 x]) /\
  TrIs w' S t [.int .i64 r, .int .i64 f, .int .i64 u, .slice A n cp] /\ ∀ b, S b -> w.heap.size <= b /\ b < w'.heap.size
theorem tof_s {g : List Rl} {s : ByteArray} {w w' : World} {e : Ending} (h : TofQ g s w e w') : TofS g s w e w' := by
  have hz : TrIs w' (fun _ => False) (.mk 0 0 0 []) [.int .i64 0, .int .i64 0, .int .i64 0, .slice none 0 0] :=
    .mk 0 0 0 [] none 0 (fun _ => []) (Nat.le_refl _) (Nat.zero_le _) (fun h => absurd h (Nat.lt_irrefl _)) (fun i t h => by simp at h) (fun i t ad h => by simp at h)
  obtain ⟨hb, ⟨h1, rfl⟩ | ⟨h1, h2, rfl⟩ | ⟨h1, r, n, q, V, cp, S, h2, h3, rfl, h4, h5⟩⟩ := h
  · exact ⟨hb, _, _, 0, 0, 0, none, 0, 0, _, .inl ⟨h1, rfl, rfl⟩, rfl, hz, fun b hb => hb.elim⟩
  · exact ⟨hb, _, _, 0, 0, 0, none, 0, 0, _, .inr (.inl ⟨h1, h2, rfl, rfl⟩), rfl, hz, fun b hb => hb.elim⟩
  · exact ⟨hb, _, _, 0, 0, q, V, _, cp, S, .inr (.inr ⟨h1, r, n, q, h2, h3, rfl, rfl⟩), rfl, h4, h5⟩
theorem data_arrT (l : List UInt8) : (⟨l.toArray⟩ : ByteArray).data.toList = l := by simp
theorem walk_TopText {g : List Rl} {A : Option Addr} {cp : Nat} {row : Nat -> List Value} (s : ByteArray) (w : World) (hg : GrIs w w.heap.size g A cp row) (hw : ∀ r ∈ g, WfE r.2) (hTab : TabAt w) :
    Calls Tryd.prog 11 #[.agg #[.slice A g.length cp], .string s] w fun r w' => r = .returned (.bool true) /\ Below w.heap.size w w' := by
  have hpos := hTab.pos
  have HPR := Lib.hid (fun W (hW : Below w.heap.size w W) => gprint_any g hw A cp row W ((hg.on hW).more hW.size) (hTab.below hW hpos))
  have HBG := Lib.hid (fun W => begun1_any W)
  have HRG := Lib.hid (fun (s : ByteArray) (W : World) => readg_any s W)
  have HWL := Lib.hid (fun W (hW : Below w.heap.size w W) => well_any ((hg.on hW).more hW.size))
  have HTO := Lib.hid (fun W (hW : Below w.heap.size w W) => (tof_any ((hg.on hW).more hW.size) hw s).mono fun _ _ => tof_s)
  have HPB := Lib.hid (fun hc hl => readG_back hw hc hl)
  have HWF := Lib.hid hw
  have hb0 : Below w.heap.size w (w.alloc (.cells #[.slice A g.length cp] 39)) := bl
  have hbx : Blk (w.alloc (.cells #[.slice A g.length cp] 39)) w.heap.size 39 #[.slice A g.length cp] := blk_at rfl
  unfold PrGQ prG at HPR
  unfold WellQ at HWL
  clear hg hw hTab
  go_enter Tryd.func11, Tryd.ntmps11
  go_wp2_with fail
  refine (HPR.out _ hb0).mono ?_
  generalize (w.alloc (.cells #[.slice A g.length cp] 39)) = w1 at hb0 hbx ⊢
  rintro r w2 ⟨rfl, hb2'⟩
  have hb2 := hb0.trans (hb2'.mono hb0.size)
  have hbx2 := hbx.below hb2' hbx.lt
  clear hb2' hb0 hbx
  by_cases h0 : checkG g = 0
  · rw [if_pos h0, h0]
    have HP2 : Hid (∀ o p x, ReadGR (txG g) o p x -> (txG g).length <= 2000 -> o = some g /\ p = 0 /\ x = 0) := fun o p x h hl => h.uniq (HPB.out h0 hl)
    have HLN : Hid ((⟨(txG g).toArray⟩ : ByteArray).size = (txG g).length) := sz_arr _
    have HDA : Hid ((⟨(txG g).toArray⟩ : ByteArray).data.toList = txG g) := data_arrT _
    generalize txG g = T at HP2 HLN HDA ⊢
    clear h0 HPB HPR
    generalize (⟨T.toArray⟩ : ByteArray) = X at HLN HDA ⊢
    go_wp2_with fail
    refine (HBG.out _).mono ?_
    rintro r w3 ⟨rfl, hb3'⟩
    have hb3 := hb2.trans (hb3'.mono hb2.size)
    have hbx3 := hbx2.below hb3' hbx2.lt
    clear hb3' hb2 hbx2
    rcases Nat.lt_or_ge 2000 T.length with hl | hl
    · have hgt : (2000 : Int) < (X.size : Int) := by rw [HLN.out]; omega
      clear hl
      go_wp2_with fail
      refine (HBG.out _).mono ?_
      rintro r w4 ⟨rfl, hb4⟩
      go_wp2
      go_ret
      exact ⟨rfl, hb3.trans (hb4.mono hb3.size)⟩
    · have hgt : ¬ (2000 : Int) < (X.size : Int) := by rw [HLN.out]; omega
      have HLT := Lib.hid hl
      clear hl
      go_wp2_with fail
      refine (HRG.out X _).mono ?_
      rintro r w5 ⟨hb5', o, p, x, hP, A2, cp2, row2, rfl, hE2⟩
      rw [HDA.out] at hP
      obtain ⟨rfl, rfl, rfl⟩ := HP2.out o p x hP HLT.out
      have hlen : ((some g).getD []).length = g.length := rfl
      rw [hlen]
      have hE2 : GrF (fun b => w3.heap.size <= b /\ b < w5.heap.size) w5.heap.size w5 g A2 cp2 row2 := hE2
      have hb5 := hb3.trans (hb5'.mono hb3.size)
      have hbx5 := hbx3.below hb5' hbx3.lt
      have hE6 := hE2.allocR (.cells #[.slice A2 g.length cp2] 39)
      have hb6 := hb5.alloc hb5.size (.cells #[.slice A2 g.length cp2] 39)
      have hbx6 := hbx5.alloc (.cells #[.slice A2 g.length cp2] 39)
      have hy6 := Blk.new w5 39 #[.slice A2 g.length cp2]
      clear hE2 hb5' hb3 hbx3 hb5 hbx5 hP HP2 hgt HDA HLN HLT hlen
      go_upto_region 5 with fail
      generalize (w5.alloc (.cells #[.slice A2 g.length cp2] 39)) = w6 at hb6 hbx6 hy6 hE6 ⊢
      generalize w5.heap.size = yb at hy6 ⊢
      have hG6 := hE6.is
      have HWL2 := Lib.hid (fun W (hW : Below w6.heap.size w6 W) => well_any ((hG6.on hW).more hW.size))
      have HTO2 := Lib.hid (fun W (hW : Below w6.heap.size w6 W) => (tof_any ((hG6.on hW).more hW.size) HWF.out s).mono fun _ _ => tof_s)
      have HUN := Lib.hid (fun t t' x x' (h : TofV g s t x) (h' : TofV g s t' x') => h.uniq h')
      unfold WellQ at HWL2
      unfold TofS at HTO HTO2
      generalize (wellG g).1 = wa at HWL HWL2
      generalize (wellG g).2 = wb at HWL HWL2
      generalize TofV g s = TV at HTO HTO2 HUN
      clear hE6 hG6 HWF HRG HBG
      have x0 := hbx6.cell 0
      go_wp2_with fail
      refine (HWL.out _ hb6).mono ?_
      rintro r w7 ⟨rfl, hb7⟩
      have hb07 := hb6.trans (hb7.mono hb6.size)
      have hbx7 := hbx6.below hb7 hbx6.lt
      have hy7 := hy6.below hb7 hy6.lt
      clear x0 hb6 hbx6 hy6
      have y0 := hy7.cell 0
      go_wp2_with fail
      refine (HWL2.out _ hb7).mono ?_
      rintro r w8 ⟨rfl, hb8'⟩
      have hb8 := hb7.trans (hb8'.mono hb7.size)
      have hb08 := hb07.trans (hb8'.mono hb07.size)
      have hbx8 := hbx7.below hb8' hbx7.lt
      have hy8 := hy7.below hb8' hy7.lt
      clear y0 hb8' hb7 hb07 hbx7 hy7
      have x0 := hbx8.cell 0
      go_wp2_with fail
      refine (HTO.out _ hb08).mono ?_
      rintro r w9 ⟨hb9', t1, x1, r1, f1, u1, A1, n1, cp1, S1, hT1, rfl, hI1, hS1⟩
      have hb9 := hb8.trans (hb9'.mono hb8.size)
      have hb09 := hb08.trans (hb9'.mono hb08.size)
      have hbx9 := hbx8.below hb9' hbx8.lt
      have hy9 := hy8.below hb9' hy8.lt
      have hb10 := hb9.alloc hb9.size (.cells #[.int .i64 r1, .int .i64 f1, .int .i64 u1, .slice A1 n1 cp1] 60)
      have hb010 := hb09.alloc hb09.size (.cells #[.int .i64 r1, .int .i64 f1, .int .i64 u1, .slice A1 n1 cp1] 60)
      have hy10 := hy9.alloc (.cells #[.int .i64 r1, .int .i64 f1, .int .i64 u1, .slice A1 n1 cp1] 60)
      have ha10 := Blk.new w9 60 #[.int .i64 r1, .int .i64 f1, .int .i64 u1, .slice A1 n1 cp1]
      have hI10 := hI1.keep (w' := w9.alloc (.cells #[.int .i64 r1, .int .i64 f1, .int .i64 u1, .slice A1 n1 cp1] 60)) (fun b hb => (show b < (w9.alloc (.cells #[.int .i64 r1, .int .i64 f1, .int .i64 u1, .slice A1 n1 cp1] 60)).heap.size by have := (hS1 b hb).2; simp; omega)) fun p hp => World.cell?_alloc_lt w9 _ p (hS1 _ hp).2
      clear hb9' hb8 hb08 hbx8 hy8 hb9 hb09 hbx9 hy9 hI1 hS1 x0
      go_upto_region 10 with fail
      generalize (w9.alloc (.cells #[.int .i64 r1, .int .i64 f1, .int .i64 u1, .slice A1 n1 cp1] 60)) = w10 at hb10 hb010 hy10 ha10 hI10 ⊢
      generalize w9.heap.size = ab at ha10 ⊢
      have y0 := hy10.cell 0
      go_wp2_with fail
      refine (HTO2.out _ hb10).mono ?_
      rintro r w11 ⟨hb11', t2, x2, r2, f2, u2, A2', n2, cp2', S2, hT2, rfl, hI2, hS2⟩
      obtain ⟨rfl, rfl⟩ := HUN.out _ _ _ _ hT1 hT2
      have hb011 := hb010.trans (hb11'.mono hb010.size)
      have ha11 := ha10.below hb11' ha10.lt
      have hz11 := hb11'.size
      have hI11 := hI10.keep (w' := w11) (S' := fun b => b < w11.heap.size) (fun b hb => (show b < w11.heap.size by have h : b < w10.heap.size := hb; omega)) fun p hp => hb11'.cell hp
      have hb012 := hb011.alloc hb011.size (.cells #[.int .i64 r2, .int .i64 f2, .int .i64 u2, .slice A2' n2 cp2'] 60)
      have ha12 := ha11.alloc (.cells #[.int .i64 r2, .int .i64 f2, .int .i64 u2, .slice A2' n2 cp2'] 60)
      have hc12 := Blk.new w11 60 #[.int .i64 r2, .int .i64 f2, .int .i64 u2, .slice A2' n2 cp2']
      have hsame := (same_any t1) t1 _ _ (w11.alloc (.cells #[.int .i64 r2, .int .i64 f2, .int .i64 u2, .slice A2' n2 cp2'] 60)) (fun b => b < w11.heap.size)
        (hI11.keep (fun b hb => hb) fun p hp => World.cell?_alloc_lt w11 _ p hp) (hI2.keep (fun b hb => (hS2 b hb).2) fun p hp => World.cell?_alloc_lt w11 _ p (hS2 _ hp).2) (fun b hb => by simp; exact Nat.lt_succ_of_lt hb)
      rw [(sameT_eq t1 t1).2 rfl] at hsame
      have HSM := Lib.hid hsame
      clear hsame hI11 hI2 hS2 hI10 hb11' hb010 hb10 hy10 ha10 ha11 hb011 hz11 y0 hT1 hT2 HUN HTO HTO2 HWL HWL2
      go_upto_region 11 with fail
      generalize (w11.alloc (.cells #[.int .i64 r2, .int .i64 f2, .int .i64 u2, .slice A2' n2 cp2'] 60)) = w12 at hb012 ha12 hc12 HSM ⊢
      generalize w11.heap.size = cb at hc12 ⊢
      have a0 := ha12.cell 0
      have a1 := ha12.cell 1
      have a2 := ha12.cell 2
      have a3 := ha12.cell 3
      have c0 := hc12.cell 0
      have c1 := hc12.cell 1
      have c2 := hc12.cell 2
      have c3 := hc12.cell 3
      have e1 : (wa == wa) = true := beq_self_eq_true wa
      have e2 : (wb == wb) = true := beq_self_eq_true wb
      have e3 : (x1 == x1) = true := beq_self_eq_true x1
      go_wp2_with fail
      refine HSM.out.mono ?_
      rintro r w13 ⟨rfl, hb13⟩
      go_wp2
      go_ret
      exact ⟨rfl, hb012.trans (hb13.mono hb012.size)⟩
  · rw [if_neg h0]
    have hne : (checkG g != 0) = true := by rw [bne_iff_ne]; exact h0
    clear h0 HPB HPR
    generalize checkG g = cx at hne ⊢
    go_wp2_with fail
    refine (HBG.out _).mono ?_
    rintro r w3 ⟨rfl, hb3'⟩
    have hb3 := hb2.trans (hb3'.mono hb2.size)
    clear hb3' hb2 hbx2
    go_wp2_with fail
    refine (HBG.out _).mono ?_
    rintro r w4 ⟨rfl, hb4⟩
    go_wp2
    go_ret
    exact ⟨rfl, hb3.trans (hb4.mono hb3.size)⟩
end Go.Proofs.YtndhbdbfjkmloaaDoor
namespace Go.Proofs.YtndhbdbfjkmloaaDoor.topText
set_option maxRecDepth 100000
open Go.ChangeShapes Go.WideShapes Go.ChangeAt Go.RowKit
open Go.ChangeMaps (open_string shut_string)
set_option linter.unusedVariables false
theorem own : ownKnob Tryd.prog.godebug = none := by kernel_rfl
theorem laidOut : laidOutB Tryd.prog = true := by kernel_rfl
theorem gTab : Tryd.prog.globalNamed "math/bits.deBruijn64tab" = some 0 := by kernel_rfl
theorem tTab : (Tryd.prog.globals[0]?).map (·.type) = some 194 := by kernel_rfl
theorem c8 : Tryd.prog.cellsOf 5 = 1 := by kernel_rfl
theorem door_met (os : Os) (args : Array Value) : laidMetH Tryd.prog [("math/bits.deBruijn64tab", Rows.laid_math_bits_deBruijn64tab)] ((World.doorLaid Tryd.prog 400 os).forCall (fun _ _ => 0) ⟨#[], args, []⟩).memory :=
  laidMetH_of_parts3 (fuel := 8) (laidMet_of_run' 8 (by kernel_rfl) (by kernel_rfl)) (by kernel_rfl) (by kernel_rfl)
theorem tab_lits : ∀ (xs : List (DataW Unit × List MemPlace)), Rows.laid_math_bits_deBruijn64tab = DataW.agg (xs.map (·.1)) -> ∀ (j : Nat) (x : DataW Unit × List MemPlace), xs[j]? = some x -> x.1 = .lit (.int .u8 (Lib.deBruijn64tab.getD j 0)) := by
  intro xs h j x hx
  have h' : (Lib.deBruijn64tab.map fun n : Nat => DataW.lit (H := Unit) (.int .u8 (n : Int))) = xs.map (·.1) := by
    have : Rows.laid_math_bits_deBruijn64tab = DataW.agg (H := Unit) (Lib.deBruijn64tab.map fun n : Nat => DataW.lit (.int .u8 (n : Int))) := by rfl
    rw [this] at h
    injection h
  have h1 := congrArg (·[j]?) h'
  simp only [List.getElem?_map, hx, Option.map_some] at h1
  obtain ⟨n, hn, he⟩ := Option.map_eq_some_iff.1 h1
  rw [<- he, List.getD_eq_getElem?_getD, hn]
  rfl
theorem of_laid {W : World} (h : laidMetH Tryd.prog [("math/bits.deBruijn64tab", Rows.laid_math_bits_deBruijn64tab)] W) : TabAt W := by
  rw [MakeChecks.laidMetH_plain _ _ _ (by kernel_rfl)] at h
  obtain ⟨ps, ⟨g0, t0, cs0, f0, p0, q0, hg0, ht0, hv0, hd0, _, _⟩, _, _⟩ := h
  obtain rfl := Option.some.inj (gTab.symm.trans hg0)
  obtain rfl := Option.some.inj (tTab.symm.trans ht0)
  obtain ⟨xs, m, _, hx, _, hn, hel⟩ := DataW.trod_array Tryd.underlying194 hd0
  injection hx with hx _
  intro j hj
  have hj' : j < 64 := hj
  have h1 := hel j hj'
  rw [List.getElem?_eq_getElem (by omega), c8] at h1
  obtain ⟨k, e1, e2, _⟩ := DataW.trod_int Tryd.underlying5 h1
  have h2 := tab_lits xs hx j _ (List.getElem?_eq_getElem (by omega))
  rw [e2] at h2
  have hk : k = (Lib.deBruijn64tab.getD j 0 : Nat) := by simpa using h2
  have hc := World.var?_cell hg0 hv0 j
  rw [hc]
  rw [Nat.mul_one] at e1
  have h3 : cs0.toList[j]? = some (.int .u8 k) := by
    have := congrArg (·[0]?) e1
    simpa [List.getElem?_take, List.getElem?_drop] using this
  rw [Array.getElem?_toList] at h3
  rw [h3, hk]
theorem lifted (os : Os) (started : os.Started) (H : Type) (enc : TypeId × Value -> H) :
    ReturnsInHanded {} Tryd.checked os 11 .any (fun w args => (Rows.topTextSpec.pre enc Tryd.prog Tryd.f11 [] false w args /\ laidMetH Tryd.prog [("math/bits.deBruijn64tab", Rows.laid_math_bits_deBruijn64tab)] w) /\ sizedMet enc Tryd.prog Tryd.f11 (OpenSpec.ofChange Rows.topTextSpec) false w args)
      (Rows.topTextSpec.post enc Tryd.prog Tryd.f11 false true false false) := by
  refine returnsInHanded_of_change_and (C := Tryd.checked) (X := fun w _ => laidMetH Tryd.prog [("math/bits.deBruijn64tab", Rows.laid_math_bits_deBruijn64tab)] w) (fun _ _ _ hh h => h.of_heap hh) own started (by kernel_rfl) Tryd.func11
    (ChangeSpec.witness_shaped (enc := enc) (C := Tryd.checked) (os := os) (X := fun w _ => laidMetH Tryd.prog [("math/bits.deBruijn64tab", Rows.laid_math_bits_deBruijn64tab)] w) false (World.doorLaid Tryd.prog 400 os) #[.agg #[.slice none 0 0], .string ByteArray.empty] 8 rfl (World.shaped_of_RefB (by kernel_rfl) (by kernel_rfl)) (by kernel_rfl) (by kernel_rfl) (by kernel_rfl) (door_met os _)) ?_
  intro W base args ds gs before hval0 hW hcnd hsz0 hL _
  have hval : ∀ (j : Nat) t v, Tryd.f11.params[j]? = some t -> args[j]? = some v -> Value.okWide Tryd.prog W .any base t v := hval0
  have hsz : (DataW.weightsEach Tryd.prog (Tryd.f11.params.toList ++ Rows.topTextSpec.plain.varTypes Tryd.prog) (ds ++ gs)).all (· <= reachBytes) = true := hsz0
  have hW' := hW
  obtain ⟨p, q, hA0, hV, rfl, hfz, hnd⟩ := hW
  have hA : DataW.TrodAll enc Tryd.prog W 0 (fun _ => true) true Tryd.f11.params.toList args.toList ds p := hA0
  rw [Tryd.params11] at hA hval hsz
  obtain ⟨v0, vs0, d0, ds0, p0, q0, hargs, rfl, rfl, h0, r0⟩ := trodAll_cons hA
  obtain ⟨v1, vs1, d1, ds1, p1, q1, rfl, rfl, rfl, h1, r1⟩ := trodAll_cons r0
  obtain ⟨rfl, rfl, rfl⟩ := trodAll_nil r1
  obtain rfl : args = #[v0, v1] := by cases args; simp_all
  obtain ⟨rfl, rfl⟩ := trodVars_none hV
  have k0 := h0
  have lt0 : ∀ x ∈ p0, x.block < W.heap.size := by obtain ⟨m, hm⟩ := k0; exact DataW.trod_lt m _ _ _ hm
  have k1 := h1
  have lt1 : ∀ x ∈ p1, x.block < W.heap.size := by obtain ⟨m, hm⟩ := k1; exact DataW.trod_lt m _ _ _ hm
  obtain ⟨g0, A0, cp0, row0, rfl, w0, u0⟩ := open_gram (by obtain ⟨cs, e1, e2⟩ := okWide_struct Tryd.underlying39 (hval 0 39 v0 rfl rfl); exact ⟨cs, e1, e2⟩) h0
  obtain ⟨s1, rfl, rfl, rfl, n1⟩ := open_string Tryd.underlying9 (hval 1 9 v1 rfl rfl) h1
  have w1 : s1.size <= 140737488351232 := by have := sized_string hsz (j := 1) (t := 9) rfl rfl; simpa [reachBytes] using this
  have hT := of_laid hL
  clear hA0 hval0
  refine (walk_TopText s1 W w0 u0 hT).mono fun e W' ⟨he, bel⟩ => ?_
  subst he
  exact ⟨_, rfl, _, _, _, [], _, [], hW', trodAll_mk1 (shut_bool Tryd.underlying4 _), (trodAll_cons_mk (Below.trod laidOut (by kernel_rfl) (of_decide_eq_true (by kernel_rfl)) k0 bel lt0) (trodAll_cons_mk (Below.trod laidOut (by kernel_rfl) (of_decide_eq_true (by kernel_rfl)) k1 bel lt1) trodAll_mk0)), rfl, bel.frame _, fun h => by cases h⟩
theorem over : Rows.topTextRow.holds Tryd.pinned (OpenSpec.ofChange Rows.topTextSpec) :=
  OpenClaim.holds_of_wide 11 Tryd.f11 rfl rfl rfl rfl rfl rfl rfl ⟨rfl, rfl, rfl, rfl, rfl⟩ rfl rfl rfl rfl rfl (by kernel_rfl) Tryd.func11 (by kernel_rfl)
    (of_decide_eq_true (by kernel_rfl)) (by unfold Func.isWrapper; first | (rw [if_pos (by decide +kernel)]; kernel_rfl) | (rw [if_neg (by decide +kernel)]; exact ⟨rfl, rfl⟩))
    (fun os started H enc _ => lifted os started H enc)
theorem proved : Rows.TopTextCardSaid :=
  Claim7.holds_tied_plain_at .later [] [.data] true (true, "84fe2c0e37c422917b18a07fb6c302e79b75133ca52d2c8cd8afdad499592a61") true
    over (fun _ h => by cases h) (by kernel_rfl) (fun _ h => by cases h) topText_row_tie rfl ⟨rfl, rfl⟩ (by kernel_rfl) rfl
    (fun f fn hf hfn => by
      obtain rfl : f = 11 := Option.some.inj ((show Tryd.prog.funcNamed "chaffcutter/chafftop.TopText" = some 11 by kernel_rfl).symm.trans hf) |>.symm
      obtain rfl : fn = Tryd.f11 := (Option.some.inj (Tryd.func11.symm.trans hfn)).symm
      exact ⟨by kernel_rfl, fun j t ht => by
        rw [Tryd.params11] at ht
        rcases j with _ | _ | j
        · obtain rfl : t = 39 := by simpa using ht.symm
          exact (show Tryd.prog.wantsStandIn 39 = false by kernel_rfl)
        · obtain rfl : t = 9 := by simpa using ht.symm
          exact (show Tryd.prog.wantsStandIn 9 = false by kernel_rfl)
        · simp at ht⟩)
    (by kernel_rfl)
#print axioms proved
end Go.Proofs.YtndhbdbfjkmloaaDoor.topText
