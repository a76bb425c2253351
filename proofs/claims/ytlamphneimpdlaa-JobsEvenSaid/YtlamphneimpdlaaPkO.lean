/- pack.Run: what it answers. -/
import Derived.Test.YtlamphneimpdlaaPkA
namespace Go.Proofs.Ytlamphneimpdlaa
open Go.RowKit Go.Maps

theorem ownsRow_low {w : World} {base base' n size : Nat} {e : TypeId} {v : Value} {xs : List Value} (h : w.ownsRow base e size v n xs) (hb : base' ≤ base) : w.ownsRow base' e size v n xs := by
  refine ⟨h.1, ?_⟩
  rcases h.2 with h0 | ⟨g, cap, cur, h1, h2, h3⟩
  · exact .inl h0
  · exact .inr ⟨g, cap, cur, h1, by omega, h3⟩
theorem pk_last {g : List Rl} {s : List UInt8} {m i p : Nat} {o : Option Nat} {σ1 : PS} (h : pk g s false m (.rule i) p ps0 = some (o, σ1)) : ∃ l', σ1.log = l' ++ [(i, p, o.map (· - p))] := by
  cases m with
  | zero => cases h
  | succ m =>
    simp only [pk] at h
    have h0 : recall ps0.seen (i, p) = none := rfl
    rw [h0] at h
    simp only at h
    split at h
    · cases h
    · split at h
      · cases h
      · split at h
        · cases h
        · simp only [Option.some.injEq, Prod.mk.injEq] at h
          obtain ⟨rfl, rfl⟩ := h
          exact ⟨_, rfl⟩
/-- what Run answers -/
def RunQ (g : List Rl) (s : ByteArray) (w : World) (e : Ending) (w' : World) : Prop := Below w.heap.size w w' ∧
  ((lookG g s ≠ 0 ∧ e = .returned (.tuple #[outV none, .slice none 0 0, .int .i64 (lookG g s)])) ∨
   (lookG g s = 0 ∧ ∃ (o : Option Nat) (σ1 : PS) (V : Option Addr) (cp : Nat) (l' : List (Nat × Nat × Option Nat)), (∃ m, pk g s.data.toList false m (.rule 0) 0 ps0 = some (o, σ1)) ∧ Agree g s.data.toList σ1 ∧ Tight g s.size σ1 ∧ σ1.log = l' ++ [(0, 0, o)] ∧
     e = .returned (.tuple #[outV o, .slice V σ1.log.length cp, .int .i64 0]) ∧ w'.ownsRow w.heap.size 200 4 (.slice V σ1.log.length cp) σ1.log.length (σ1.log.flatMap stepC)))

set_option maxRecDepth 100000 in
set_option maxHeartbeats 8000000 in
theorem run_any {g : List Rl} {A : Option Addr} {cp : Nat} {row : Nat → List Value} {w : World} (h : GrIs w w.heap.size g A cp row) (hwf : ∀ r ∈ g, WfE r.2) (s : ByteArray) :
    Calls Try.prog 46 #[.agg #[.slice A g.length cp], .string s] w (RunQ g s w) := by
  have hlk := fun W (hW : Below w.heap.size w W) => mlook_any ((h.on hW).more hW.size) s
  have HLK := Lib.hid hlk
  have HG := Lib.hid h
  have HWF := Lib.hid hwf
  clear hlk h hwf
  by_cases hl0 : lookG g s = 0
  · obtain ⟨W, h60⟩ := look_zero hl0
    rw [hl0] at HLK
    have HL0 := Lib.hid hl0
    have HW := Lib.hid W
    have h10 := W.right.ten
    have hpos := W.right.pos
    clear hl0 W
    obtain ⟨r, hr⟩ : ∃ r, g[0]? = some r := ⟨_, List.getElem?_eq_getElem hpos⟩
    have hsl : s.data.toList.length = s.size := size_list s
    obtain ⟨o, m, σ1, hsem, hpk, hag⟩ := rule_goes HW.out s.data.toList hr (p := 0) (by omega)
    have hnew := fun W (hW : Below w.heap.size w W) => new_any ((HG.out.on hW).more hW.size) hpos h10 (sixty_of HW.out.right) s
    have HN := Lib.hid hnew
    have HPK := Lib.hid hpk
    have HAG := Lib.hid hag
    clear hnew hpk hsem hr hag
    go_enter Try.func46, Try.ntmps46
    go_wp2_with fail
    refine (HLK.out _ (by repeat (first | exact Below.refl _ _ | assumption | refine Below.drew ?_ | refine below_drewN ?_ _ | refine Below.alloc ?_ (by first | omega | (simp; omega) | simp) _ | refine Below.setCell ?_ (by first | omega | (simp; omega) | simp) _))).mono ?_
    rintro e w1 ⟨rfl, hb1⟩
    have hw1 : Below w.heap.size w w1 := (((Below.refl _ w).alloc (Nat.le_refl _) _).alloc (by simp) _).trans (hb1.mono (by simp; omega))
    have hgx : Blk w1 w.heap.size 24 #[.slice A g.length cp] := ((blk_at rfl).alloc _).below hb1 (by simp; omega)
    have hox : Blk w1 (w.heap.size + 1) 96 #[.bool false, .int .i64 0] := (blk_at (by simp)).below hb1 (by simp)
    have g0 : w1.cell? ⟨w.heap.size, 0, none⟩ = some (.slice A g.length cp) := hgx.cell 0
    clear hb1
    go_wp2_with fail
    refine (HN.out _ hw1).mono ?_
    rintro e w2 ⟨c, hcg, hcs, hch, rfl, hok, hpar, hb2, hcB⟩
    have hw2 : Below w.heap.size w w2 := hw1.trans (hb2.mono hw1.size)
    have hox2 := hox.below hb2 hox.lt
    have F : c.Fit := PC.fit (by rw [hcg]; exact HW.out) (by rw [hcs]; exact h60) hok hch (by rw [hcg]; exact HWF.out)
    have hru := (does F m).2.2 0 0 ps0 (o, σ1) w2 (by rw [hcg, hcs]; exact HPK.out) (by rw [hcg]; exact hpos) (by omega) (bound0 _) hpar
    have HRU := Lib.hid hru
    have hzw := hw1.size
    have hxl := hox.lt
    have hBP := hok.BP
    have hBM := hok.BM
    have hBb := hok.Bb
    have hPs := hpar.size
    have hPb := hok.P
    clear hru hb2
    go_wp2_with fail
    refine HRU.out.mono ?_
    rintro e w3 ⟨⟨v, rfl, hv⟩, q1, q2⟩
    obtain ⟨b, n, hbn⟩ : ∃ (b : Bool) (n : Int), outV v = .agg #[.bool b, .int .i64 n] := by cases v <;> exact ⟨_, _, rfl⟩
    have hvo : v = o := by
      simp only at hv
      rw [hv]
      cases v with
      | none => rfl
      | some k => simp
    subst hvo
    obtain ⟨lv, hP, hrow⟩ := q1.par
    have hti := q1.tight
    obtain ⟨V, lc, rfl⟩ := own_form hrow
    obtain ⟨l', hl'⟩ := pk_last HPK.out
    rw [show v.map (· - 0) = v by cases v <;> rfl] at hl'
    rw [hcg, hcs, hsl] at hti
    have hox3 : Blk w3 (w.heap.size + 1) 96 #[.bool false, .int .i64 0] := q2.box hox2 (by decide) (by omega) (by omega)
    have hw3 : Below w.heap.size w w3 := hw2.trans (q2.below (by have := hw2.size; omega) (by omega) (by omega) (by omega))
    have hrow3 : (((w3.setCell ⟨w.heap.size + 1, 0, none⟩ (.bool b)).setCell ⟨w.heap.size + 1, 1, none⟩ (.int .i64 n)).alloc (.cells #[.bool b, .int .i64 n] 96)).drew.ownsRow w.heap.size 200 4 (.slice V σ1.log.length lc) σ1.log.length (σ1.log.flatMap stepC) := by
      have hne : ∀ (W : World), World.ownsRow W c.base 200 4 (.slice V σ1.log.length lc) σ1.log.length (σ1.log.flatMap stepC) → ∀ i u, World.ownsRow (W.setCell ⟨w.heap.size + 1, i, none⟩ u) c.base 200 4 (.slice V σ1.log.length lc) σ1.log.length (σ1.log.flatMap stepC) := fun W hW i u =>
        own_far hW (g := w.heap.size + 1) ⟨rfl, rfl, rfl, by simp [World.setCell], fun q hq hne => Below.heap_setCell W ⟨w.heap.size + 1, i, none⟩ u q (by rintro rfl; exact hne rfl)⟩ (by omega)
      have h0 := own_below (hne _ (hne _ hrow 0 (.bool b)) 1 (.int .i64 n)) ((Below.refl _ _).alloc (Nat.le_refl _) (.cells #[.bool b, .int .i64 n] 96))
      exact ownsRow_low h0 (by omega)
    have s3 : w3.cell? ⟨c.P, 3, none⟩ = some (.slice V σ1.log.length lc) := hP.cell 3
    have hox4 : Blk (w3.alloc (.cells #[.bool b, .int .i64 n] 96)) (w.heap.size + 1) 96 #[.bool false, .int .i64 0] := hox3.alloc _
    have hbx4 : Blk (w3.alloc (.cells #[.bool b, .int .i64 n] 96)) w3.heap.size 96 #[.bool b, .int .i64 n] := blk_at rfl
    have yz0 : w3.cell? ⟨w.heap.size + 1, 0, none⟩ = some (.bool false) := hox3.cell 0; have yz1 : w3.cell? ⟨w.heap.size + 1, 1, none⟩ = some (.int .i64 0) := hox3.cell 1; have yf0 := hox3.frozen 0; have yf1 := hox3.frozen 1; have ye0 : (w3.setCell ⟨w.heap.size + 1, 0, none⟩ (.bool b)).cell? ⟨w.heap.size + 1, 0, none⟩ = some (.bool b) := (hox3.set_ 0 _).cell 0; have ye1 : ((w3.setCell ⟨w.heap.size + 1, 0, none⟩ (.bool b)).setCell ⟨w.heap.size + 1, 1, none⟩ (.int .i64 n)).cell? ⟨w.heap.size + 1, 1, none⟩ = some (.int .i64 n) := ((hox3.set_ 0 _).set_ 1 _).cell 1
    have hox6 := ((((hox3.set_ 0 (.bool b)).set_ 1 (.int .i64 n)).alloc (.cells #[.bool b, .int .i64 n] 96)).drew)
    have yg0 : (((w3.setCell ⟨w.heap.size + 1, 0, none⟩ (.bool b)).setCell ⟨w.heap.size + 1, 1, none⟩ (.int .i64 n)).alloc (.cells #[.bool b, .int .i64 n] 96)).drew.cell? ⟨w.heap.size + 1, 0, none⟩ = some (.bool b) := hox6.cell 0
    have yg1 : (((w3.setCell ⟨w.heap.size + 1, 0, none⟩ (.bool b)).setCell ⟨w.heap.size + 1, 1, none⟩ (.int .i64 n)).alloc (.cells #[.bool b, .int .i64 n] 96)).drew.cell? ⟨w.heap.size + 1, 1, none⟩ = some (.int .i64 n) := hox6.cell 1
    have HG0 := Lib.hid yg0
    have HG1 := Lib.hid yg1
    clear yg0 yg1 hox6
    have z0 : w3.cell? ⟨w.heap.size + 1, 0, none⟩ = some (.bool false) := hox3.cell 0
    have z1 : w3.cell? ⟨w.heap.size + 1, 1, none⟩ = some (.int .i64 0) := hox3.cell 1
    have f0 := hox3.frozen 0
    have f1 := hox3.frozen 1
    have hl3 := hox3.lt
    have hPl := hP.lt
    have hPne : c.P ≠ w.heap.size + 1 := by omega
    have hne3 : w3.heap.size ≠ w.heap.size + 1 := by omega
    have HTI := Lib.hid hti
    have HRW := Lib.hid hrow3
    have HLL := Lib.hid hl'
    rw [hbn]
    clear q1 q2 HRU hpar hok F hrow hP hti hrow3 hl' hox4 hbx4
    go_wp2_with fail
    go_region
    all_goals
      go_wp2
      exact bodyPost_ret (v := .tuple #[.agg #[.bool b, .int .i64 n], .slice V σ1.log.length lc, .int .i64 0]) (by simp only [results, Try.results46]; simp [go_sem, HG0.out, HG1.out]) rfl ⟨(by repeat (first | exact Below.refl _ _ | assumption | refine Below.drew ?_ | refine below_drewN ?_ _ | refine Below.alloc ?_ (by first | omega | (simp; omega) | simp) _ | refine Below.setCell ?_ (by first | omega | (simp; omega) | simp) _)), .inr ⟨HL0.out, v, σ1, V, lc, l', ⟨m, HPK.out⟩, HAG.out, HTI.out, HLL.out, by rw [hbn], HRW.out⟩⟩
  · have hxb : (lookG g s != 0) = true := by rw [bne_iff_ne]; exact hl0
    have H0 := Lib.hid hl0
    have HX : Hid (∃ x, lookG g s = x ∧ x ≠ 0) := ⟨_, rfl, hl0⟩
    clear hl0
    go_enter Try.func46, Try.ntmps46
    go_wp2_with fail
    refine (HLK.out _ (by repeat (first | exact Below.refl _ _ | assumption | refine Below.drew ?_ | refine below_drewN ?_ _ | refine Below.alloc ?_ (by first | omega | (simp; omega) | simp) _ | refine Below.setCell ?_ (by first | omega | (simp; omega) | simp) _))).mono ?_
    rintro e w1 ⟨rfl, hb1⟩
    have hw1 : Below w.heap.size w w1 := (((Below.refl _ w).alloc (Nat.le_refl _) _).alloc (by simp) _).trans (hb1.mono (by simp; omega))
    have hox : Blk w1 (w.heap.size + 1) 96 #[.bool false, .int .i64 0] := (blk_at (by simp)).below hb1 (by simp)
    have yz0 : w1.cell? ⟨w.heap.size + 1, 0, none⟩ = some (.bool false) := hox.cell 0; have yz1 : w1.cell? ⟨w.heap.size + 1, 1, none⟩ = some (.int .i64 0) := hox.cell 1; have yf0 := hox.frozen 0; have yf1 := hox.frozen 1; have ye0 : (w1.setCell ⟨w.heap.size + 1, 0, none⟩ (.bool false)).cell? ⟨w.heap.size + 1, 0, none⟩ = some (.bool false) := (hox.set_ 0 _).cell 0; have ye1 : ((w1.setCell ⟨w.heap.size + 1, 0, none⟩ (.bool false)).setCell ⟨w.heap.size + 1, 1, none⟩ (.int .i64 0)).cell? ⟨w.heap.size + 1, 1, none⟩ = some (.int .i64 0) := ((hox.set_ 0 _).set_ 1 _).cell 1
    have hzw := hw1.size
    clear hb1
    go_wp2
    exact bodyPost_ret (v := .tuple #[.agg #[.bool false, .int .i64 0], .slice none 0 0, .int .i64 (lookG g s)]) (by simp [results, Try.results46, go_sem, ye0, ye1]) rfl ⟨(by repeat (first | exact Below.refl _ _ | assumption | refine Below.drew ?_ | refine below_drewN ?_ _ | refine Below.alloc ?_ (by first | omega | (simp; omega) | simp) _ | refine Below.setCell ?_ (by first | omega | (simp; omega) | simp) _)), .inl ⟨H0.out, rfl⟩⟩
end Go.Proofs.Ytlamphneimpdlaa
