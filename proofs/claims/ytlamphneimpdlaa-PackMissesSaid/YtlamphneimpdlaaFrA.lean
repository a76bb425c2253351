/- pack.Far: what it answers. -/
import Derived.Test.YtlamphneimpdlaaPkO
import Derived.Test.YtlamphneimpdlaaQSpg
import Derived.Test.YtlamphneimpdlaaPmP
import Derived.Deep.DeepCutAuto
namespace Go.Proofs.Ytlamphneimpdlaa
open Go.RowKit Go.Maps

/-- what Far answers -/
def FarQ (g : List Rl) (s : ByteArray) (w : World) (e : Ending) (w' : World) : Prop := Below w.heap.size w w' ∧
  ((lookG g s ≠ 0 ∧ e = .returned (.tuple #[.int .i64 0, .agg #[.int .u64 0, .int .u64 0, .int .u64 0, .int .u64 0], .int .i64 (lookG g s)])) ∨
   (lookG g s = 0 ∧ ∃ (o : Option Nat) (σ1 : PS) (m : Nat), pk g s.data.toList false m (.rule 0) 0 ps0 = some (o, σ1) ∧
     e = .returned (.tuple #[.int .i64 σ1.far, .agg #[.int .u64 σ1.want.a, .int .u64 σ1.want.b, .int .u64 σ1.want.c, .int .u64 σ1.want.d], .int .i64 0])))
/-- what the last region reads -/
structure FarC (P rb : Nat) (f a b c d : Int) (W : World) : Prop where
  f0 : W.cell? ⟨P, 4, none⟩ = some (.int .i64 f)
  w0 : W.cell? ⟨P, 5, none⟩ = some (.int .u64 a)
  w1 : W.cell? ⟨P, 6, none⟩ = some (.int .u64 b)
  w2 : W.cell? ⟨P, 7, none⟩ = some (.int .u64 c)
  w3 : W.cell? ⟨P, 8, none⟩ = some (.int .u64 d)
  r : Blk W rb 32 #[.int .u64 0, .int .u64 0, .int .u64 0, .int .u64 0]

set_option maxRecDepth 100000 in
set_option maxHeartbeats 8000000 in
theorem far_any {g : List Rl} {A : Option Addr} {cp : Nat} {row : Nat → List Value} {w : World} (h : GrIs w w.heap.size g A cp row) (hwf : ∀ r ∈ g, WfE r.2) (s : ByteArray) :
    Calls Try.prog 44 #[.agg #[.slice A g.length cp], .string s] w (FarQ g s w) := by
  have hlk := fun W (hW : Below w.heap.size w W) => mlook_any ((h.on hW).more hW.size) s
  have HLK := Lib.hid hlk
  have HG := Lib.hid h
  have HWF := Lib.hid hwf
  clear hlk h hwf
  by_cases hl0 : lookG g s = 0
  · obtain ⟨W, h60⟩ := look_zero hl0
    rw [hl0] at HLK
    have HL0 := Lib.hid hl0
    have HW := Lib.hid W
    have h10 := W.right.ten
    have hpos := W.right.pos
    clear hl0 W
    obtain ⟨r, hr⟩ : ∃ r, g[0]? = some r := ⟨_, List.getElem?_eq_getElem hpos⟩
    have hsl : s.data.toList.length = s.size := size_list s
    obtain ⟨o, m, σ1, hsem, hpk, hag⟩ := rule_goes HW.out s.data.toList hr (p := 0) (by omega)
    have hnew := fun W (hW : Below w.heap.size w W) => new_any ((HG.out.on hW).more hW.size) hpos h10 (sixty_of HW.out.right) s
    have HN := Lib.hid hnew
    have HPK := Lib.hid hpk
    clear hnew hpk hsem hr hag
    go_enter Try.func44, Try.ntmps44
    go_wp2_with fail
    refine (HLK.out _ (by repeat (first | exact Below.refl _ _ | assumption | refine Below.drew ?_ | refine below_drewN ?_ _ | refine Below.alloc ?_ (by first | omega | (simp; omega) | simp) _ | refine Below.setCell ?_ (by first | omega | (simp; omega) | simp) _))).mono ?_
    rintro e w1 ⟨rfl, hb1⟩
    have hw1 : Below w.heap.size w w1 := (((Below.refl _ w).alloc (Nat.le_refl _) _).alloc (by simp) _).trans (hb1.mono (by simp; omega))
    have hgx : Blk w1 w.heap.size 24 #[.slice A g.length cp] := ((blk_at rfl).alloc _).below hb1 (by simp; omega)
    have hox : Blk w1 (w.heap.size + 1) 32 #[.int .u64 0, .int .u64 0, .int .u64 0, .int .u64 0] := (blk_at (by simp)).below hb1 (by simp)
    have g0 : w1.cell? ⟨w.heap.size, 0, none⟩ = some (.slice A g.length cp) := hgx.cell 0
    clear hb1
    go_wp2_with fail
    refine (HN.out _ hw1).mono ?_
    rintro e w2 ⟨c, hcg, hcs, hch, rfl, hok, hpar, hb2, hcB⟩
    have hw2 : Below w.heap.size w w2 := hw1.trans (hb2.mono hw1.size)
    have hox2 := hox.below hb2 hox.lt
    have F : c.Fit := PC.fit (by rw [hcg]; exact HW.out) (by rw [hcs]; exact h60) hok hch (by rw [hcg]; exact HWF.out)
    have hru := (does F m).2.2 0 0 ps0 (o, σ1) w2 (by rw [hcg, hcs]; exact HPK.out) (by rw [hcg]; exact hpos) (by omega) (bound0 _) hpar
    have HRU := Lib.hid hru
    have hzw := hw1.size
    have hxl := hox.lt
    have hBP := hok.BP
    have hBM := hok.BM
    have hBb := hok.Bb
    have hPs := hpar.size
    have hPb := hok.P
    clear hru hb2
    go_wp2_with fail
    refine HRU.out.mono ?_
    rintro e w3 ⟨⟨v, rfl, hv⟩, q1, q2⟩
    have hox3 : Blk w3 (w.heap.size + 1) 32 #[.int .u64 0, .int .u64 0, .int .u64 0, .int .u64 0] := q2.box hox2 (by decide) (by omega) (by omega)
    have hw3 : Below w.heap.size w w3 := hw2.trans (q2.below (by have := hw2.size; omega) (by omega) (by omega) (by omega))
    have c4 := q1.c4
    have c5 := q1.c5
    have c6 := q1.c6
    have c7 := q1.c7
    have c8 := q1.c8
    have HQ : Hid (∀ W', Below w.heap.size w W' → FarQ g s w (.returned (.tuple #[.int .i64 σ1.far, .agg #[.int .u64 σ1.want.a, .int .u64 σ1.want.b, .int .u64 σ1.want.c, .int .u64 σ1.want.d], .int .i64 0])) W') := fun W' hb => ⟨hb, .inr ⟨HL0.out, o, σ1, m, HPK.out, rfl⟩⟩
    generalize σ1.far = zf at c4 HQ
    generalize σ1.want.a = za at c5 HQ
    generalize σ1.want.b = zb at c6 HQ
    generalize σ1.want.c = zc at c7 HQ
    generalize σ1.want.d = zd at c8 HQ
    generalize c.P = pb at *
    clear q1 q2 HRU hpar hok F
    go_upto_region 6 with fail
    refine wp_region_l (FarC pb (w.heap.size + 1) zf za zb zc zd) (fun i => i == 9 || i == 10) (by kernel_rfl) ?_
    have hC : FarC pb (w.heap.size + 1) zf za zb zc zd w3.drew := ⟨c4, c5, c6, c7, c8, hox3.drew⟩
    have hw4 := hw3.drew
    generalize w3.drew = wd at hC hw4 ⊢
    clear c4 c5 c6 c7 c8
    apply L.rd (i := 0) rfl (by kernel_rfl) hC rfl
    · intro W hW
      skip
      unfold readW
      go_simp
      first | rfl | exact ⟨rfl, rfl⟩
    first | simp only [Act.put, List.setIfInBounds_toArray, List.set_cons_succ, List.set_cons_zero] | skip
    apply L.rd (i := 1) rfl (by kernel_rfl) hC rfl
    · intro W hW
      skip
      unfold readW
      go_simp
      first | rfl | exact ⟨rfl, rfl⟩
    first | simp only [Act.put, List.setIfInBounds_toArray, List.set_cons_succ, List.set_cons_zero] | skip
    apply L.rd (i := 2) rfl (by kernel_rfl) hC rfl
    · intro W hW
      skip
      unfold readW
      go_simp
      first | rfl | exact ⟨rfl, rfl⟩
    first | simp only [Act.put, List.setIfInBounds_toArray, List.set_cons_succ, List.set_cons_zero] | skip
    apply L.rd (i := 3) rfl (by kernel_rfl) hC rfl
    · intro W hW
      have n0 := hW.f0
      unfold readW
      go_simp
      first | rfl | exact ⟨rfl, rfl⟩
    first | simp only [Act.put, List.setIfInBounds_toArray, List.set_cons_succ, List.set_cons_zero] | skip
    apply L.rd (i := 4) rfl (by kernel_rfl) hC rfl
    · intro W hW
      skip
      unfold readW
      go_simp
      first | rfl | exact ⟨rfl, rfl⟩
    first | simp only [Act.put, List.setIfInBounds_toArray, List.set_cons_succ, List.set_cons_zero] | skip
    apply L.rd (i := 5) rfl (by kernel_rfl) hC rfl
    · intro W hW
      skip
      unfold readW
      go_simp
      first | rfl | exact ⟨rfl, rfl⟩
    first | simp only [Act.put, List.setIfInBounds_toArray, List.set_cons_succ, List.set_cons_zero] | skip
    apply L.rd (i := 6) rfl (by kernel_rfl) hC rfl
    · intro W hW
      skip
      unfold readW
      go_simp
      first | rfl | exact ⟨rfl, rfl⟩
    first | simp only [Act.put, List.setIfInBounds_toArray, List.set_cons_succ, List.set_cons_zero] | skip
    apply L.rd (i := 7) rfl (by kernel_rfl) hC rfl
    · intro W hW
      have n0 := hW.w0; have n1 := hW.w1; have n2 := hW.w2; have n3 := hW.w3
      unfold readW
      go_simp
      first | rfl | exact ⟨rfl, rfl⟩
    first | simp only [Act.put, List.setIfInBounds_toArray, List.set_cons_succ, List.set_cons_zero] | skip
    apply L.rd (i := 8) rfl (by kernel_rfl) hC rfl
    · intro W hW
      skip
      unfold readW
      go_simp
      first | rfl | exact ⟨rfl, rfl⟩
    first | simp only [Act.put, List.setIfInBounds_toArray, List.set_cons_succ, List.set_cons_zero] | skip
    have hr := hC.r
    have yz0 : wd.cell? ⟨w.heap.size + 1, 0, none⟩ = some (.int .u64 0) := hr.cell 0; have yz1 : wd.cell? ⟨w.heap.size + 1, 1, none⟩ = some (.int .u64 0) := hr.cell 1; have yz2 : wd.cell? ⟨w.heap.size + 1, 2, none⟩ = some (.int .u64 0) := hr.cell 2; have yz3 : wd.cell? ⟨w.heap.size + 1, 3, none⟩ = some (.int .u64 0) := hr.cell 3; have yf0 := hr.frozen 0; have yf1 := hr.frozen 1; have yf2 := hr.frozen 2; have yf3 := hr.frozen 3; have ye0 : (wd.setCell ⟨w.heap.size + 1, 0, none⟩ (.int .u64 za)).cell? ⟨w.heap.size + 1, 0, none⟩ = some (.int .u64 za) := (hr.set_ 0 _).cell 0; have ye1 : ((wd.setCell ⟨w.heap.size + 1, 0, none⟩ (.int .u64 za)).setCell ⟨w.heap.size + 1, 1, none⟩ (.int .u64 zb)).cell? ⟨w.heap.size + 1, 1, none⟩ = some (.int .u64 zb) := ((hr.set_ 0 _).set_ 1 _).cell 1; have ye2 : (((wd.setCell ⟨w.heap.size + 1, 0, none⟩ (.int .u64 za)).setCell ⟨w.heap.size + 1, 1, none⟩ (.int .u64 zb)).setCell ⟨w.heap.size + 1, 2, none⟩ (.int .u64 zc)).cell? ⟨w.heap.size + 1, 2, none⟩ = some (.int .u64 zc) := (((hr.set_ 0 _).set_ 1 _).set_ 2 _).cell 2; have ye3 : ((((wd.setCell ⟨w.heap.size + 1, 0, none⟩ (.int .u64 za)).setCell ⟨w.heap.size + 1, 1, none⟩ (.int .u64 zb)).setCell ⟨w.heap.size + 1, 2, none⟩ (.int .u64 zc)).setCell ⟨w.heap.size + 1, 3, none⟩ (.int .u64 zd)).cell? ⟨w.heap.size + 1, 3, none⟩ = some (.int .u64 zd) := ((((hr.set_ 0 _).set_ 1 _).set_ 2 _).set_ 3 _).cell 3
    apply L.one (i := 9) rfl (by kernel_rfl) rfl
    unfold stepT
    go_simp
    apply L.rdl (i := 10) rfl (by kernel_rfl) rfl
    · intro W
      unfold readW
      go_simp
      first | rfl | exact ⟨rfl, rfl⟩
    first | simp only [Act.put, List.setIfInBounds_toArray, List.set_cons_succ, List.set_cons_zero] | skip
    refine L.done (by kernel_rfl) ?_
    go_wp2
    exact bodyPost_ret (v := .tuple #[.int .i64 zf, .agg #[.int .u64 za, .int .u64 zb, .int .u64 zc, .int .u64 zd], .int .i64 0]) (by simp [results, Try.results44, go_sem, ye0, ye1, ye2, ye3]) rfl (HQ.out _ (by repeat (first | exact Below.refl _ _ | assumption | refine Below.drew ?_ | refine below_drewN ?_ _ | refine Below.alloc ?_ (by first | omega | (simp; omega) | simp) _ | refine Below.setCell ?_ (by first | omega | (simp; omega) | simp) _)))
  · have hxb : (lookG g s != 0) = true := by rw [bne_iff_ne]; exact hl0
    have HQ : Hid (∀ W', Below w.heap.size w W' → FarQ g s w (.returned (.tuple #[.int .i64 0, .agg #[.int .u64 0, .int .u64 0, .int .u64 0, .int .u64 0], .int .i64 (lookG g s)])) W') := fun W' hb => ⟨hb, .inl ⟨hl0, rfl⟩⟩
    generalize FarQ g s w = Q at HQ ⊢
    generalize lookG g s = x at HLK HQ hxb
    clear hl0
    go_enter Try.func44, Try.ntmps44
    go_wp2_with fail
    refine (HLK.out _ (by repeat (first | exact Below.refl _ _ | assumption | refine Below.drew ?_ | refine below_drewN ?_ _ | refine Below.alloc ?_ (by first | omega | (simp; omega) | simp) _ | refine Below.setCell ?_ (by first | omega | (simp; omega) | simp) _))).mono ?_
    rintro e w1 ⟨rfl, hb1⟩
    have hw1 : Below w.heap.size w w1 := (((Below.refl _ w).alloc (Nat.le_refl _) _).alloc (by simp) _).trans (hb1.mono (by simp; omega))
    have hox : Blk w1 (w.heap.size + 1) 32 #[.int .u64 0, .int .u64 0, .int .u64 0, .int .u64 0] := (blk_at (by simp)).below hb1 (by simp)
    have yz0 : w1.cell? ⟨w.heap.size + 1, 0, none⟩ = some (.int .u64 0) := hox.cell 0; have yz1 : w1.cell? ⟨w.heap.size + 1, 1, none⟩ = some (.int .u64 0) := hox.cell 1; have yz2 : w1.cell? ⟨w.heap.size + 1, 2, none⟩ = some (.int .u64 0) := hox.cell 2; have yz3 : w1.cell? ⟨w.heap.size + 1, 3, none⟩ = some (.int .u64 0) := hox.cell 3; have yf0 := hox.frozen 0; have yf1 := hox.frozen 1; have yf2 := hox.frozen 2; have yf3 := hox.frozen 3; have ye0 : (w1.setCell ⟨w.heap.size + 1, 0, none⟩ (.int .u64 0)).cell? ⟨w.heap.size + 1, 0, none⟩ = some (.int .u64 0) := (hox.set_ 0 _).cell 0; have ye1 : ((w1.setCell ⟨w.heap.size + 1, 0, none⟩ (.int .u64 0)).setCell ⟨w.heap.size + 1, 1, none⟩ (.int .u64 0)).cell? ⟨w.heap.size + 1, 1, none⟩ = some (.int .u64 0) := ((hox.set_ 0 _).set_ 1 _).cell 1; have ye2 : (((w1.setCell ⟨w.heap.size + 1, 0, none⟩ (.int .u64 0)).setCell ⟨w.heap.size + 1, 1, none⟩ (.int .u64 0)).setCell ⟨w.heap.size + 1, 2, none⟩ (.int .u64 0)).cell? ⟨w.heap.size + 1, 2, none⟩ = some (.int .u64 0) := (((hox.set_ 0 _).set_ 1 _).set_ 2 _).cell 2; have ye3 : ((((w1.setCell ⟨w.heap.size + 1, 0, none⟩ (.int .u64 0)).setCell ⟨w.heap.size + 1, 1, none⟩ (.int .u64 0)).setCell ⟨w.heap.size + 1, 2, none⟩ (.int .u64 0)).setCell ⟨w.heap.size + 1, 3, none⟩ (.int .u64 0)).cell? ⟨w.heap.size + 1, 3, none⟩ = some (.int .u64 0) := ((((hox.set_ 0 _).set_ 1 _).set_ 2 _).set_ 3 _).cell 3
    have hzw := hw1.size
    clear hb1
    go_wp2
    exact bodyPost_ret (v := .tuple #[.int .i64 0, .agg #[.int .u64 0, .int .u64 0, .int .u64 0, .int .u64 0], .int .i64 x]) (by simp [results, Try.results44, go_sem, ye0, ye1, ye2, ye3]) rfl (HQ.out _ (by repeat (first | exact Below.refl _ _ | assumption | refine Below.drew ?_ | refine below_drewN ?_ _ | refine Below.alloc ?_ (by first | omega | (simp; omega) | simp) _ | refine Below.setCell ?_ (by first | omega | (simp; omega) | simp) _)))
end Go.Proofs.Ytlamphneimpdlaa
