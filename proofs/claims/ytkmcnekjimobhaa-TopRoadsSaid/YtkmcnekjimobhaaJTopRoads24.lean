/- pack.Run: what it answers. mean.Run: what it answers. CodeMeans: the walk of the law. Meanings put together: plain. -/
import Derived.Test.YtkmcnekjimobhaaJTopRoads22
import Derived.Test.YtkmcnekjimobhaaJTopRoads3
import Derived.BigQuiet
import Derived.Deep.QuietTactic
import Derived.Test.YtkmcnekjimobhaaJTopRoads23
import Derived.Test.YtkmcnekjimobhaaJTopRoads18
import Derived.Test.YtkmcnekjimobhaaJTopRoads20
namespace Go.Proofs.Ytkmcnekjimobhaa
set_option maxHeartbeats 8000000
set_option maxRecDepth 100000
open Go.RowKit Go.Maps
theorem ownsRow_low {w : World} {base base' n size : Nat} {e : TypeId} {v : Value} {xs : List Value} (h : w.ownsRow base e size v n xs) (hb : base' <= base) : w.ownsRow base' e size v n xs := by
  refine ⟨h.1, ?_⟩
  rcases h.2 with h0 | ⟨g, cap, cur, h1, h2, h3⟩
  · exact .inl h0
  · exact .inr ⟨g, cap, cur, h1, by omega, h3⟩
theorem pk_last {g : List Rl} {s : List UInt8} {m i p : Nat} {o : Option Nat} {σ1 : PS} (h : pk g s false m (.rule i) p ps0 = some (o, σ1)) : ∃ l', σ1.log = l' ++ [(i, p, o.map (· - p))] := by
  cases m with
  | zero => cases h
  | succ m =>
    simp only [pk] at h
    have h0 : recall ps0.seen (i, p) = none := rfl
    rw [h0] at h
    simp only at h
    split at h
    · cases h
    · split at h
      · cases h
      · split at h
        · cases h
        · simp only [Option.some.injEq, Prod.mk.injEq] at h
          obtain ⟨rfl, rfl⟩ := h
          exact ⟨_, rfl⟩
def RunQ (g : List Rl) (s : ByteArray) (w : World) (e : Ending) (w' : World) : Prop := Below w.heap.size w w' /\
  ((lookG g s ≠ 0 /\ e = .returned (.tuple #[outV none, .slice none 0 0, .int .i64 (lookG g s)])) \/
   (lookG g s = 0 /\ ∃ (o : Option Nat) (σ1 : PS) (V : Option Addr) (cp : Nat) (l' : List (Nat × Nat × Option Nat)), (∃ m, pk g s.data.toList false m (.rule 0) 0 ps0 = some (o, σ1)) /\ Agree g s.data.toList σ1 /\ Tight g s.size σ1 /\ σ1.log = l' ++ [(0, 0, o)] /\
     e = .returned (.tuple #[outV o, .slice V σ1.log.length cp, .int .i64 0]) /\ w'.ownsRow w.heap.size 159 4 (.slice V σ1.log.length cp) σ1.log.length (σ1.log.flatMap stepC)))
theorem run_any {g : List Rl} {A : Option Addr} {cp : Nat} {row : Nat -> List Value} {w : World} (h : GrIs w w.heap.size g A cp row) (hwf : ∀ r ∈ g, WfE r.2) (s : ByteArray) :
    Calls Try.prog 15 #[.agg #[.slice A g.length cp], .string s] w (RunQ g s w) := by
  have hlk := fun W (hW : Below w.heap.size w W) => mlook_any ((h.on hW).more hW.size) s
  have HLK := Lib.hid hlk
  have HG := Lib.hid h
  have HWF := Lib.hid hwf
  clear hlk h hwf
  by_cases hl0 : lookG g s = 0
  · obtain ⟨W, h60⟩ := look_zero hl0
    rw [hl0] at HLK
    have HL0 := Lib.hid hl0
    have HW := Lib.hid W
    have h10 := W.right.ten
    have hpos := W.right.pos
    clear hl0 W
    obtain ⟨r, hr⟩ : ∃ r, g[0]? = some r := ⟨_, List.getElem?_eq_getElem hpos⟩
    have hsl : s.data.toList.length = s.size := size_list s
    obtain ⟨o, m, σ1, hsem, hpk, hag⟩ := rule_goes HW.out s.data.toList hr (p := 0) (by omega)
    have hnew := fun W (hW : Below w.heap.size w W) => new_any ((HG.out.on hW).more hW.size) hpos h10 (sixty_of HW.out.right) s
    have HN := Lib.hid hnew
    have HPK := Lib.hid hpk
    have HAG := Lib.hid hag
    clear hnew hpk hsem hr hag
    go_enter Try.func15, Try.ntmps15
    go_wp2_with fail
    refine (HLK.out _ bl).mono ?_
    rintro e w1 ⟨rfl, hb1⟩
    have hw1 : Below w.heap.size w w1 := (((Below.refl _ w).alloc (Nat.le_refl _) _).alloc (by simp) _).trans (hb1.mono (by simp; omega))
    have hgx : Blk w1 w.heap.size 24 #[.slice A g.length cp] := ((blk_at rfl).alloc _).below hb1 (by simp; omega)
    have hox : Blk w1 (w.heap.size + 1) 41 #[.bool false, .int .i64 0] := (blk_at (by simp)).below hb1 (by simp)
    have g0 : w1.cell? ⟨w.heap.size, 0, none⟩ = some (.slice A g.length cp) := hgx.cell 0
    clear hb1
    go_wp2_with fail
    refine (HN.out _ hw1).mono ?_
    rintro e w2 ⟨c, hcg, hcs, hch, ⟨hhk, hlm, -⟩, rfl, hok, hpar, hb2, hcB⟩
    have hw2 : Below w.heap.size w w2 := hw1.trans (hb2.mono hw1.size)
    have hox2 := hox.below hb2 hox.lt
    have F : c.Fit := PC.fit (by rw [hcg]; exact HW.out) (by rw [hcs]; exact h60) hok hhk hlm hch (by rw [hcg]; exact HWF.out)
    have hru := (does F m).2.2 0 0 ps0 (o, σ1) w2 (by rw [hcg, hcs, hhk]; exact HPK.out) (by rw [hcg]; exact hpos) (by omega) (bound0 _) hpar
    have HRU := Lib.hid hru
    have hzw := hw1.size
    have hxl := hox.lt
    have hBP := hok.BP
    have hBM := hok.BM
    have hBb := hok.Bb
    have hPs := hpar.size
    have hPb := hok.P
    clear hru hb2
    go_wp2_with fail
    refine HRU.out.mono ?_
    rintro e w3 ⟨⟨v, rfl, hv⟩, q1, q2⟩
    obtain ⟨b, n, hbn⟩ : ∃ (b : Bool) (n : Int), outV v = .agg #[.bool b, .int .i64 n] := by cases v <;> exact ⟨_, _, rfl⟩
    have hvo : v = o := by
      simp only at hv
      rw [hv]
      cases v with
      | none => rfl
      | some k => simp
    subst hvo
    obtain ⟨lv, hP, hrow⟩ := q1.par
    have hti := q1.tight
    obtain ⟨V, lc, rfl⟩ := own_form hrow
    obtain ⟨l', hl'⟩ := pk_last HPK.out
    rw [show v.map (· - 0) = v by cases v <;> rfl] at hl'
    rw [hcg, hcs, hsl] at hti
    have hox3 : Blk w3 (w.heap.size + 1) 41 #[.bool false, .int .i64 0] := q2.box hox2 (by decide) (by omega) (by omega)
    have hw3 : Below w.heap.size w w3 := hw2.trans (q2.below (by have := hw2.size; omega) (by omega) (by omega) (by omega))
    have hrow3 : (((w3.setCell ⟨w.heap.size + 1, 0, none⟩ (.bool b)).setCell ⟨w.heap.size + 1, 1, none⟩ (.int .i64 n)).alloc (.cells #[.bool b, .int .i64 n] 41)).drew.ownsRow w.heap.size 159 4 (.slice V σ1.log.length lc) σ1.log.length (σ1.log.flatMap stepC) := by
      have hne : ∀ (W : World), World.ownsRow W c.base 159 4 (.slice V σ1.log.length lc) σ1.log.length (σ1.log.flatMap stepC) -> ∀ i u, World.ownsRow (W.setCell ⟨w.heap.size + 1, i, none⟩ u) c.base 159 4 (.slice V σ1.log.length lc) σ1.log.length (σ1.log.flatMap stepC) := fun W hW i u =>
        own_far hW (g := w.heap.size + 1) ⟨rfl, rfl, rfl, by simp [World.setCell], fun q hq hne => Below.heap_setCell W ⟨w.heap.size + 1, i, none⟩ u q (by rintro rfl; exact hne rfl)⟩ (by omega)
      have h0 := own_below (hne _ (hne _ hrow 0 (.bool b)) 1 (.int .i64 n)) ((Below.refl _ _).alloc (Nat.le_refl _) (.cells #[.bool b, .int .i64 n] 41))
      exact ownsRow_low h0 (by omega)
    have s3 : w3.cell? ⟨c.P, 3, none⟩ = some (.slice V σ1.log.length lc) := hP.cell 3
    have hox4 : Blk (w3.alloc (.cells #[.bool b, .int .i64 n] 41)) (w.heap.size + 1) 41 #[.bool false, .int .i64 0] := hox3.alloc _
    have hbx4 : Blk (w3.alloc (.cells #[.bool b, .int .i64 n] 41)) w3.heap.size 41 #[.bool b, .int .i64 n] := blk_at rfl
    have yz0 : w3.cell? ⟨w.heap.size + 1, 0, none⟩ = some (.bool false) := hox3.cell 0; have yz1 : w3.cell? ⟨w.heap.size + 1, 1, none⟩ = some (.int .i64 0) := hox3.cell 1; have yf0 := hox3.frozen 0; have yf1 := hox3.frozen 1; have ye0 : (w3.setCell ⟨w.heap.size + 1, 0, none⟩ (.bool b)).cell? ⟨w.heap.size + 1, 0, none⟩ = some (.bool b) := (hox3.set_ 0 _).cell 0; have ye1 : ((w3.setCell ⟨w.heap.size + 1, 0, none⟩ (.bool b)).setCell ⟨w.heap.size + 1, 1, none⟩ (.int .i64 n)).cell? ⟨w.heap.size + 1, 1, none⟩ = some (.int .i64 n) := ((hox3.set_ 0 _).set_ 1 _).cell 1
    have hox6 := ((((hox3.set_ 0 (.bool b)).set_ 1 (.int .i64 n)).alloc (.cells #[.bool b, .int .i64 n] 41)).drew)
    have yg0 : (((w3.setCell ⟨w.heap.size + 1, 0, none⟩ (.bool b)).setCell ⟨w.heap.size + 1, 1, none⟩ (.int .i64 n)).alloc (.cells #[.bool b, .int .i64 n] 41)).drew.cell? ⟨w.heap.size + 1, 0, none⟩ = some (.bool b) := hox6.cell 0
    have yg1 : (((w3.setCell ⟨w.heap.size + 1, 0, none⟩ (.bool b)).setCell ⟨w.heap.size + 1, 1, none⟩ (.int .i64 n)).alloc (.cells #[.bool b, .int .i64 n] 41)).drew.cell? ⟨w.heap.size + 1, 1, none⟩ = some (.int .i64 n) := hox6.cell 1
    have HG0 := Lib.hid yg0
    have HG1 := Lib.hid yg1
    clear yg0 yg1 hox6
    have z0 : w3.cell? ⟨w.heap.size + 1, 0, none⟩ = some (.bool false) := hox3.cell 0
    have z1 : w3.cell? ⟨w.heap.size + 1, 1, none⟩ = some (.int .i64 0) := hox3.cell 1
    have f0 := hox3.frozen 0
    have f1 := hox3.frozen 1
    have hl3 := hox3.lt
    have hPl := hP.lt
    have hPne : c.P ≠ w.heap.size + 1 := by omega
    have hne3 : w3.heap.size ≠ w.heap.size + 1 := by omega
    have HTI := Lib.hid hti
    have HRW := Lib.hid hrow3
    have HLL := Lib.hid hl'
    rw [hbn]
    clear q1 q2 HRU hpar hok F hrow hP hti hrow3 hl' hox4 hbx4
    go_wp2_with fail
    go_region
    all_goals
      go_wp2
      exact bodyPost_ret (v := .tuple #[.agg #[.bool b, .int .i64 n], .slice V σ1.log.length lc, .int .i64 0]) (by simp only [results, Try.results15]; simp [go_sem, HG0.out, HG1.out]) rfl ⟨bl, .inr ⟨HL0.out, v, σ1, V, lc, l', ⟨m, HPK.out⟩, HAG.out, HTI.out, HLL.out, by rw [hbn], HRW.out⟩⟩
  · have hxb : (lookG g s != 0) = true := by rw [bne_iff_ne]; exact hl0
    have H0 := Lib.hid hl0
    have HX : Hid (∃ x, lookG g s = x /\ x ≠ 0) := ⟨_, rfl, hl0⟩
    clear hl0
    go_enter Try.func15, Try.ntmps15
    go_wp2_with fail
    refine (HLK.out _ bl).mono ?_
    rintro e w1 ⟨rfl, hb1⟩
    have hw1 : Below w.heap.size w w1 := (((Below.refl _ w).alloc (Nat.le_refl _) _).alloc (by simp) _).trans (hb1.mono (by simp; omega))
    have hox : Blk w1 (w.heap.size + 1) 41 #[.bool false, .int .i64 0] := (blk_at (by simp)).below hb1 (by simp)
    have yz0 : w1.cell? ⟨w.heap.size + 1, 0, none⟩ = some (.bool false) := hox.cell 0; have yz1 : w1.cell? ⟨w.heap.size + 1, 1, none⟩ = some (.int .i64 0) := hox.cell 1; have yf0 := hox.frozen 0; have yf1 := hox.frozen 1; have ye0 : (w1.setCell ⟨w.heap.size + 1, 0, none⟩ (.bool false)).cell? ⟨w.heap.size + 1, 0, none⟩ = some (.bool false) := (hox.set_ 0 _).cell 0; have ye1 : ((w1.setCell ⟨w.heap.size + 1, 0, none⟩ (.bool false)).setCell ⟨w.heap.size + 1, 1, none⟩ (.int .i64 0)).cell? ⟨w.heap.size + 1, 1, none⟩ = some (.int .i64 0) := ((hox.set_ 0 _).set_ 1 _).cell 1
    have hzw := hw1.size
    clear hb1
    go_wp2
    exact bodyPost_ret (v := .tuple #[.agg #[.bool false, .int .i64 0], .slice none 0 0, .int .i64 (lookG g s)]) (by simp [results, Try.results15, go_sem, ye0, ye1]) rfl ⟨bl, .inl ⟨H0.out, rfl⟩⟩
end Go.Proofs.Ytkmcnekjimobhaa
namespace Go.Proofs.Ytkmcnekjimobhaa
set_option maxRecDepth 100000
set_option maxHeartbeats 8000000
open Go.RowKit Go.Maps
theorem run_same_out (w : World) (b b' : Bool) (n n' : Int) : (Op.equalIn 10000 41 (.agg #[.bool b, .int .i64 n]) (.agg #[.bool b', .int .i64 n'])).run Try.prog w = .ok (b == b' && n == n') w := by
  have u4 := Try.underlying4
  have a4 := Try.isAgg4
  have z4 := Try.sizeOf4
  have u3 := Try.underlying3
  have a3 := Try.isAgg3
  have z3 := Try.sizeOf3
  have hS : Try.prog.underlying 41 = some (.struct (Try.prog.fieldsOf 41)) := by kernel_rfl
  have hp : Try.prog.stoodInHeld 41 = false := by kernel_rfl
  rw [show (10000 : Nat) = 9999 + 1 from rfl, run_equalIn_agg w 9999 41 _ _ hS hp]
  simp only [Program.fieldsOf, Try.underlying41]
  go_simp
  cases b <;> cases b' <;> cases h : (n == n') <;> simp_all
theorem outV_eq (v : Option Nat) : outV v = .agg #[.bool v.isSome, .int .i64 (v.getD 0 : Nat)] := by cases v <;> rfl
section
variable {g : List Rl} (a s : List UInt8)
end
end Go.Proofs.Ytkmcnekjimobhaa
namespace Go.Proofs.Ytkmcnekjimobhaa
set_option maxRecDepth 100000
set_option maxHeartbeats 8000000
open Go.RowKit Go.Maps
section
variable {g : List Rl} {s : List UInt8} {hook : Bool} {fs : List Fa}
theorem pk_goesA (H : Fits g fs) {n m num p : Nat} {e : Ex} {u u' : Option Nat} {σ σ1 : PS} (hrt : Rt g e) (hp : p <= s.length) (he : ev g s n e p = some u) (hσ : Agree g s σ) (h : pk g s hook m (.try_ e num) p σ = some (u', σ1)) : u' = u /\ Agree g s σ1 := by
  obtain ⟨m0, σ0, h0, ha, _⟩ := ((goes (hook := hook) H n).1 e p u hrt hp he σ num hσ).try_
  have e1 := pk_le h0 (Nat.le_max_left m0 m)
  have e2 := pk_le h (Nat.le_max_right m0 m)
  rw [e1] at e2
  injection e2 with e2
  injection e2 with e2 e3
  subst e2 e3
  exact ⟨rfl, ha⟩
end
theorem sem_run {g : List Rl} (W : WellG g) {s : List UInt8} {n m : Nat} {r : Rl} {o o' : Option Nat} {σ1 : PS} (hr : g[0]? = some r) (he : ev g s n r.2 0 = some o) (hpk : pk g s false m (.rule 0) 0 ps0 = some (o', σ1)) : o' = o := by
  cases m with
  | zero => cases hpk
  | succ m =>
    have H := fits_of W.right
    have hrt := W.right.rt r (List.mem_of_getElem? hr)
    simp only [pk] at hpk
    have h0 : recall ps0.seen (0, 0) = none := rfl
    rw [h0, hr] at hpk
    simp only at hpk
    cases hq : pk g s false m (.try_ r.2 (firstN g 0)) 0 ps0 with
    | none => rw [hq] at hpk; cases hpk
    | some x =>
      obtain ⟨u, σ2⟩ := x
      obtain ⟨rfl, _⟩ := pk_goesA (hook := false) H hrt (Nat.zero_le _) he (agree0 g s) hq
      rw [hq] at hpk
      simp only at hpk
      split at hpk
      · cases hpk
      · simp only [Option.some.injEq, Prod.mk.injEq] at hpk
        obtain ⟨rfl, rfl⟩ := hpk
        rfl
noncomputable def outG (g : List Rl) (s : ByteArray) : Option Nat := Classical.epsilon fun o => ∃ r, g[0]? = some r /\ Sem g s.data.toList r.2 0 o
theorem outG_is {g : List Rl} {s : ByteArray} {r : Rl} {o : Option Nat} (hr : g[0]? = some r) (h : Sem g s.data.toList r.2 0 o) : outG g s = o := by
  obtain ⟨r', hr', h'⟩ := Classical.epsilon_spec (p := fun o => ∃ r, g[0]? = some r /\ Sem g s.data.toList r.2 0 o) ⟨o, r, hr, h⟩
  rw [hr] at hr'
  injection hr' with hr'
  subst hr'
  exact h'.eq h
theorem run_out {g : List Rl} {s : ByteArray} (hl0 : lookG g s = 0) {m : Nat} {o : Option Nat} {σ1 : PS} (h : pk g s.data.toList false m (.rule 0) 0 ps0 = some (o, σ1)) : outG g s = o /\ ∀ k, o = some k -> k <= s.size := by
  obtain ⟨W, h60⟩ := look_zero hl0
  have hpos := W.right.pos
  obtain ⟨r, hr⟩ : ∃ r, g[0]? = some r := ⟨_, List.getElem?_eq_getElem hpos⟩
  obtain ⟨n, o', he⟩ := ends (s := s.data.toList) W (p := 0) (by omega) (W.good (List.mem_of_getElem? hr))
  obtain rfl := sem_run W hr he h
  refine ⟨outG_is hr ⟨n, he⟩, fun k hk => ?_⟩
  have ht := (told (s := s.data.toList) (fits_of W.right) n).1 r.2 0 o (W.right.rt r (List.mem_of_getElem? hr)) (by omega) he
  rw [hk] at ht
  have := ht.2.1
  rw [size_list] at this
  exact this
noncomputable def accG (g : List Rl) (s : ByteArray) : Bool := decide (lookG g s = 0) && ((outG g s).isSome && decide ((outG g s).getD 0 = s.size))
theorem acc_any {g : List Rl} {A : Option Addr} {cp : Nat} {row : Nat -> List Value} {w : World} (h : GrIs w w.heap.size g A cp row) (hwf : ∀ r ∈ g, WfE r.2) (s : ByteArray) :
    Calls Try.prog 48 #[.agg #[.slice A g.length cp], .string s] w fun e w' => e = .returned (.tuple #[.bool (accG g s), .int .i64 (lookG g s)]) /\ Below w.heap.size w w' := by
  have hrn := fun W (hW : Below w.heap.size w W) => run_any (h.grow hW) hwf s
  have HR := Lib.hid hrn
  generalize hY : accG g s = Y
  generalize hX : lookG g s = X
  have HY := Lib.hid hY
  have HX := Lib.hid hX
  clear hrn h hwf hX hY
  go_enter Try.func48, Try.ntmps48
  go_wp2_with fail
  refine (HR.out _ bl).mono ?_
  rintro e w1 ⟨hb1, hq⟩
  have hw1 : Below w.heap.size w w1 := ((Below.refl _ w).alloc (Nat.le_refl _) _).trans (hb1.mono (by simp))
  have hz1 := hw1.size
  clear hb1
  rcases hq with ⟨hne, rfl⟩ | ⟨hl0, o, σ1, V, lc, l', ⟨m, hpk⟩, ha, ht, hl, rfl, ho⟩
  · rw [HX.out] at hne ⊢
    have hxb : (X == 0) = false := by rw [beq_eq_false_iff_ne]; exact hne
    obtain rfl : Y = false := by rw [<- HY.out]; unfold accG; rw [HX.out, decide_eq_false hne, Bool.false_and]
    rw [outV_eq]
    clear hne HX HY
    go_wp2
    go_ret2
    exact ⟨rfl, bl⟩
  · clear ha ht hl ho
    obtain ⟨h1, h2⟩ := run_out hl0 hpk
    have hy : Y = (o.isSome && decide (o.getD 0 = s.size)) := by rw [<- HY.out]; unfold accG; rw [hl0, h1]; rfl
    obtain rfl : X = 0 := by rw [<- HX.out]; exact hl0
    rw [outV_eq]
    clear hl0 hpk h1 h2 HX HY
    generalize σ1.log.length = ll
    cases o with
    | none =>
      obtain rfl : Y = false := hy
      go_wp2
      go_ret2
      exact ⟨rfl, bl⟩
    | some k =>
      have hy2 : Y = decide (k = s.size) := hy
      have hk : ((k : Int) == (s.size : Int)) = decide (k = s.size) := by rw [Bool.eq_iff_iff]; simp; omega
      rw [<- hk] at hy2
      clear hk hy
      subst hy2
      simp only [Option.isSome_some, Option.getD_some]
      go_wp2
      go_ret2
      exact ⟨rfl, bl⟩
theorem run_nout0 (w : World) : (Instr.build 41 #[]).run Try.prog w = .ok (.agg #[.bool false, .int .i64 0]) w := by kernel_rfl
theorem mrun_any {g : List Rl} {A : Option Addr} {cp : Nat} {row : Nat -> List Value} {w : World} (h : GrIs w w.heap.size g A cp row) (hwf : ∀ r ∈ g, WfE r.2) (s : ByteArray) (steps : Int) {C : Nat} {o : Option Nat} (hC : Costs g s C o) :
    Calls Try.prog 28 #[.agg #[.slice A g.length cp], .string s, .int .i64 steps] w (MRunQ g s steps C o w) := by
  have hrn := run_nout0
  have hlk := fun W (hW : Below w.heap.size w W) => mlook_any ((h.on hW).more hW.size) s
  have HLK := Lib.hid hlk
  by_cases hl0 : lookG g s = 0
  · rw [hl0] at HLK
    by_cases hbad : steps < 0 \/ 1048576 < steps
    · have HR : Hid (MRunR g s steps C o none 0 1) := .inr (.inl ⟨hl0, hbad, rfl, rfl, rfl⟩)
      have h4 : steps < 0 \/ (¬ steps < 0 /\ 1048576 < steps) := by omega
      clear hbad h hlk hl0 hC
      rcases h4 with h1 | ⟨h1, h2⟩
      all_goals
        go_enter Try.func28, Try.ntmps28
        go_wp2_with fail
        refine (HLK.out _ bl).mono ?_
        rintro e w1 ⟨rfl, hb1⟩
        have hw1 : Below w.heap.size w w1 := (((Below.refl _ w).alloc (Nat.le_refl _) _).alloc (by simp) _).trans (hb1.mono (by simp; omega))
        have hox : Blk w1 (w.heap.size + 1) 41 #[.bool false, .int .i64 0] := (blk_at (by simp)).below hb1 (by simp)
        have yz0 : w1.cell? ⟨w.heap.size + 1, 0, none⟩ = some (.bool false) := hox.cell 0; have yz1 : w1.cell? ⟨w.heap.size + 1, 1, none⟩ = some (.int .i64 0) := hox.cell 1; have yf0 := hox.frozen 0; have yf1 := hox.frozen 1; have ye0 : (w1.setCell ⟨w.heap.size + 1, 0, none⟩ (.bool false)).cell? ⟨w.heap.size + 1, 0, none⟩ = some (.bool false) := (hox.set_ 0 _).cell 0; have ye1 : ((w1.setCell ⟨w.heap.size + 1, 0, none⟩ (.bool false)).setCell ⟨w.heap.size + 1, 1, none⟩ (.int .i64 0)).cell? ⟨w.heap.size + 1, 1, none⟩ = some (.int .i64 0) := ((hox.set_ 0 _).set_ 1 _).cell 1
        have hzw := hw1.size
        clear hb1
        go_wp2
        exact bodyPost_ret (v := .tuple #[.agg #[.bool false, .int .i64 0], .int .i64 0, .int .i64 1]) (by simp [results, Try.results28, go_sem, ye0, ye1]) rfl ⟨none, 0, 1, HR.out, rfl, bl⟩
    · obtain ⟨L, hL⟩ := Int.eq_ofNat_of_zero_le (show 0 <= steps by omega)
      subst hL
      have hLm : L <= 1048576 := by omega
      have h1 : ¬ ((L : Int) < 0) := by omega
      have h2 : ¬ ((1048576 : Int) < (L : Int)) := by omega
      clear hbad
      obtain ⟨W0, h60⟩ := look_zero hl0
      obtain ⟨n, r, hr, hev, hcost⟩ := hC hl0
      have hpos := W0.right.pos
      have hm := h.cap
      unfold maxLen at hm
      obtain ⟨ad, nm, k', a', b', c', d', t', ks', A', cp', rfl, hab, hej, hnm, hE, hS⟩ := h.rule hpos
      rw [hr] at hej
      injection hej with hej
      have hlen : s.data.toList.length = s.size := size_list s
      have hrun : ∀ (R : Nat) (W : World) (hBR : w.heap.size <= R), Below w.heap.size w W -> Rn ⟨w.heap.size, R, some ad, cp, s, g, row, hBR⟩ W L false -> Calls Try.prog 55 #[.pointer (some ⟨R, 0, none⟩), .agg #[.int .i64 k', .int .u64 a', .int .u64 b', .int .u64 c', .int .u64 d', .string t', .slice A' ks'.length cp'], .int .i64 0] W (Gone ⟨w.heap.size, R, some ad, cp, s, g, row, hBR⟩ L C o W) := by
        intro R W hBR hW hR
        have F : RC.Fit ⟨w.heap.size, R, some ad, cp, s, g, row, hBR⟩ := ⟨W0.right, hwf, by show s.data.toList.length <= 1000; omega⟩
        have := runs F n r.2 0 o (exCells k' a' b' c' d' t' A' ks'.length cp') W L hev (by rw [hej]; exact hE.on hW) ⟨W0.right.rt r (List.mem_of_getElem? hr), hwf r (List.mem_of_getElem? hr)⟩ (by omega) hR (by unfold lots; omega)
        rw [hcost]
        exact this
      have hgr := fun W (hW : Below w.heap.size w W) => h.on hW
      rw [Nat.zero_mul] at hS
      have hS1 : Eight w ad nm k' a' b' c' d' t' A' ks'.length cp' := hS
      have hcc : ∀ W, Below w.heap.size w W -> Eight W ad nm k' a' b' c' d' t' A' ks'.length cp' := fun W hW =>
        have hk := fun (q : Addr) (hq : q.block = ad.block) => hW.cell (p := q) (by rw [hq]; omega)
        ⟨(hk _ rfl).trans hS1.c0, (hk ⟨_, _, none⟩ rfl).trans hS1.c1, (hk ⟨_, _, none⟩ rfl).trans hS1.c2, (hk ⟨_, _, none⟩ rfl).trans hS1.c3, (hk ⟨_, _, none⟩ rfl).trans hS1.c4, (hk ⟨_, _, none⟩ rfl).trans hS1.c5, (hk ⟨_, _, none⟩ rfl).trans hS1.c6, (hk ⟨_, _, none⟩ rfl).trans hS1.c7⟩
      have HRUN := Lib.hid hrun
      have HGR := Lib.hid hgr
      have HCC := Lib.hid hcc
      have HL0 := Lib.hid hl0
      have hp1 : (0 : Int) < (g.length : Int) := by omega
      clear hrun hgr hcc hS hS1 hE hnm hej hev hcost hr hC h hlk hwf W0 hl0
      go_enter Try.func28, Try.ntmps28
      go_wp2_with fail
      refine (HLK.out _ bl).mono ?_
      rintro e w1 ⟨rfl, hb1⟩
      have hw1 : Below w.heap.size w w1 := (((Below.refl _ w).alloc (Nat.le_refl _) _).alloc (by simp) _).trans (hb1.mono (by simp; omega))
      have hgx : Blk w1 w.heap.size 24 #[.slice (some ad) g.length cp] := ((blk_at rfl).alloc _).below hb1 (by simp; omega)
      have hox : Blk w1 (w.heap.size + 1) 41 #[.bool false, .int .i64 0] := (blk_at (by simp)).below hb1 (by simp)
      have g0 : w1.cell? ⟨w.heap.size, 0, none⟩ = some (.slice (some ad) g.length cp) := hgx.cell 0
      obtain ⟨y0, y1, y2, y3, y4, y5, y6, y7⟩ := HCC.out w1 hw1
      have y2' : w1.cell? ⟨ad.block, ad.off + 1 + 1, none⟩ = some (.int .u64 a') := y2
      have y3' : w1.cell? ⟨ad.block, ad.off + 1 + 2, none⟩ = some (.int .u64 b') := y3
      have y4' : w1.cell? ⟨ad.block, ad.off + 1 + 3, none⟩ = some (.int .u64 c') := y4
      have y5' : w1.cell? ⟨ad.block, ad.off + 1 + 4, none⟩ = some (.int .u64 d') := y5
      have y6' : w1.cell? ⟨ad.block, ad.off + 1 + 5, none⟩ = some (.string t') := y6
      have y7' : w1.cell? ⟨ad.block, ad.off + 1 + 6, none⟩ = some (.slice A' ks'.length cp') := y7
      have hzw := hw1.size
      have hxl := hox.lt
      have hgl := hgx.lt
      have had1 : ad.block < w1.heap.size := by omega
      have had2 : ad.block ≠ w1.heap.size := by omega
      clear hb1
      go_wp2_with fail
      refine (HRUN.out w1.heap.size _ (by omega) bl ⟨blk_at rfl, HGR.out _ bl⟩).mono ?_
      rintro e w2 ⟨⟨z, rfl, hz⟩, q1, q2⟩
      have hox2 : Blk w2 (w.heap.size + 1) 41 #[.bool false, .int .i64 0] := q2.box (hox.alloc _) (by show w.heap.size + 1 ≠ w1.heap.size; omega)
      have s2 := q1.c2
      have s3 := q1.c3
      have hw2 : Below w.heap.size w w2 := (hw1.alloc hzw _).trans (q2.below (by simp; omega) (by show w.heap.size <= w1.heap.size; omega))
      have hzw2 := hw2.size
      have hxl2 := hox2.lt
      have hRl := q1.blk.lt
      clear y0 y1 y2 y3 y4 y5 y6 y7 y2' y3' y4' y5' y6' y7' g0
      by_cases hlc : L < C
      · rw [if_pos hlc] at hz ⊢
        rw [decide_eq_true hlc] at s3
        have HR : Hid (MRunR g s (L : Int) C o none 0 10) := .inr (.inr (.inl ⟨HL0.out, by omega, by omega, by omega, rfl, rfl, rfl⟩))
        have yz0 : w2.cell? ⟨w.heap.size + 1, 0, none⟩ = some (.bool false) := hox2.cell 0; have yz1 : w2.cell? ⟨w.heap.size + 1, 1, none⟩ = some (.int .i64 0) := hox2.cell 1; have yf0 := hox2.frozen 0; have yf1 := hox2.frozen 1; have ye0 : (w2.setCell ⟨w.heap.size + 1, 0, none⟩ (.bool false)).cell? ⟨w.heap.size + 1, 0, none⟩ = some (.bool false) := (hox2.set_ 0 _).cell 0; have ye1 : ((w2.setCell ⟨w.heap.size + 1, 0, none⟩ (.bool false)).setCell ⟨w.heap.size + 1, 1, none⟩ (.int .i64 0)).cell? ⟨w.heap.size + 1, 1, none⟩ = some (.int .i64 0) := ((hox2.set_ 0 _).set_ 1 _).cell 1
        go_wp2
        exact bodyPost_ret (v := .tuple #[.agg #[.bool false, .int .i64 0], .int .i64 0, .int .i64 10]) (by simp [results, Try.results28, go_sem, ye0, ye1]) rfl ⟨none, 0, 10, HR.out, rfl, bl⟩
      · rw [if_neg hlc] at hz ⊢
        rw [decide_eq_false hlc] at s3
        have HR : Hid (MRunR g s (L : Int) C o o C 0) := .inr (.inr (.inr ⟨HL0.out, by omega, by omega, rfl, rfl, rfl⟩))
        have hsub : IntKind.i64.wrap ((L : Int) - ((L - C : Nat) : Int)) = (C : Int) := by rw [show (L : Int) - ((L - C : Nat) : Int) = (C : Int) by omega]; exact wrap_i64 _ (by omega) (by omega)
        generalize ((L - C : Nat) : Int) = LC at s2 hsub
        obtain ⟨b, n0, hb, hbn⟩ : ∃ (b : Bool) (n0 : Int), o.isSome = b /\ outV o = .agg #[.bool b, .int .i64 n0] := by cases o <;> exact ⟨_, _, rfl, rfl⟩
        have hzn : (if b = false then 0 else z) = n0 := by
          cases o with
          | none => simp [outV] at hb hbn; subst hb; simp [hbn]
          | some q => simp [outV] at hb hbn; subst hb; simp [hz q rfl, hbn.symm]
        rw [hb]
        have HBN := Lib.hid hbn
        have HZN := Lib.hid hzn
        have hbb : (o.isSome = true) = (b = true) := by rw [hb]
        clear hb hbn hzn hz hbb HRUN HLK
        cases b with
        | false =>
          obtain rfl : 0 = n0 := HZN.out
          have yz0 : w2.cell? ⟨w.heap.size + 1, 0, none⟩ = some (.bool false) := hox2.cell 0; have yz1 : w2.cell? ⟨w.heap.size + 1, 1, none⟩ = some (.int .i64 0) := hox2.cell 1; have yf0 := hox2.frozen 0; have yf1 := hox2.frozen 1; have ye0 : (w2.setCell ⟨w.heap.size + 1, 0, none⟩ (.bool false)).cell? ⟨w.heap.size + 1, 0, none⟩ = some (.bool false) := (hox2.set_ 0 _).cell 0; have ye1 : ((w2.setCell ⟨w.heap.size + 1, 0, none⟩ (.bool false)).setCell ⟨w.heap.size + 1, 1, none⟩ (.int .i64 0)).cell? ⟨w.heap.size + 1, 1, none⟩ = some (.int .i64 0) := ((hox2.set_ 0 _).set_ 1 _).cell 1
          go_wp2_with fail
          go_region
          all_goals
            go_wp2
            exact bodyPost_ret (v := .tuple #[.agg #[.bool false, .int .i64 0], .int .i64 C, .int .i64 0]) (by simp [results, Try.results28, go_sem, ye0, ye1]) rfl ⟨o, C, 0, HR.out, by rw [HBN.out], bl⟩
        | true =>
          obtain rfl : z = n0 := HZN.out
          have yz0 : w2.cell? ⟨w.heap.size + 1, 0, none⟩ = some (.bool false) := hox2.cell 0; have yz1 : w2.cell? ⟨w.heap.size + 1, 1, none⟩ = some (.int .i64 0) := hox2.cell 1; have yf0 := hox2.frozen 0; have yf1 := hox2.frozen 1; have ye0 : (w2.setCell ⟨w.heap.size + 1, 0, none⟩ (.bool true)).cell? ⟨w.heap.size + 1, 0, none⟩ = some (.bool true) := (hox2.set_ 0 _).cell 0; have ye1 : ((w2.setCell ⟨w.heap.size + 1, 0, none⟩ (.bool true)).setCell ⟨w.heap.size + 1, 1, none⟩ (.int .i64 z)).cell? ⟨w.heap.size + 1, 1, none⟩ = some (.int .i64 z) := ((hox2.set_ 0 _).set_ 1 _).cell 1
          go_wp2_with fail
          go_region
          all_goals
            go_wp2
            exact bodyPost_ret (v := .tuple #[.agg #[.bool true, .int .i64 z], .int .i64 C, .int .i64 0]) (by simp [results, Try.results28, go_sem, ye0, ye1]) rfl ⟨o, C, 0, HR.out, by rw [HBN.out], bl⟩
  · have HR : Hid (MRunR g s steps C o none 0 (lookG g s)) := .inl ⟨hl0, rfl, rfl, rfl⟩
    have hxb : (lookG g s != 0) = true := by rw [bne_iff_ne]; exact hl0
    clear hl0 h hlk hC
    generalize lookG g s = x at hxb HLK HR
    go_enter Try.func28, Try.ntmps28
    go_wp2_with fail
    refine (HLK.out _ bl).mono ?_
    rintro e w1 ⟨rfl, hb1⟩
    have hw1 : Below w.heap.size w w1 := (((Below.refl _ w).alloc (Nat.le_refl _) _).alloc (by simp) _).trans (hb1.mono (by simp; omega))
    have hox : Blk w1 (w.heap.size + 1) 41 #[.bool false, .int .i64 0] := (blk_at (by simp)).below hb1 (by simp)
    have yz0 : w1.cell? ⟨w.heap.size + 1, 0, none⟩ = some (.bool false) := hox.cell 0; have yz1 : w1.cell? ⟨w.heap.size + 1, 1, none⟩ = some (.int .i64 0) := hox.cell 1; have yf0 := hox.frozen 0; have yf1 := hox.frozen 1; have ye0 : (w1.setCell ⟨w.heap.size + 1, 0, none⟩ (.bool false)).cell? ⟨w.heap.size + 1, 0, none⟩ = some (.bool false) := (hox.set_ 0 _).cell 0; have ye1 : ((w1.setCell ⟨w.heap.size + 1, 0, none⟩ (.bool false)).setCell ⟨w.heap.size + 1, 1, none⟩ (.int .i64 0)).cell? ⟨w.heap.size + 1, 1, none⟩ = some (.int .i64 0) := ((hox.set_ 0 _).set_ 1 _).cell 1
    have hzw := hw1.size
    clear hb1
    go_wp2
    exact bodyPost_ret (v := .tuple #[.agg #[.bool false, .int .i64 0], .int .i64 0, .int .i64 x]) (by simp [results, Try.results28, go_sem, ye0, ye1]) rfl ⟨none, 0, x, HR.out, rfl, bl⟩
end Go.Proofs.Ytkmcnekjimobhaa
namespace Go.Proofs.Ytkmcnekjimobhaa
set_option maxRecDepth 100000
open Go.RowKit
theorem litI_words (c : UInt8) : Words (litI c).set := fun i => by
  have h : (litI c).set = rangeL c.toNat 1 := by
    obtain ⟨x0, x1, x2, x3, he⟩ := four_of (rangeL_len c.toNat 1)
    unfold litI In.set
    rw [he]
    rfl
  rw [h]
  exact rangeL_lt c.toNat 1 i
theorem words0 : Words [0, 0, 0, 0] := fun i => by
  match i with
  | 0 => simp
  | 1 => simp
  | 2 => simp
  | 3 => simp
  | i + 4 => simp
def WordsAll (xs : List In) : Prop := ∀ x ∈ xs, Words x.set
section
variable {g : List Rl} {ad : Nat -> Nat}
theorem WordsAll.nil : WordsAll [] := fun x h => by cases h
theorem WordsAll.cons {x : In} {xs : List In} (h : Words x.set) (h' : WordsAll xs) : WordsAll (x :: xs) := fun y hy => by
  rcases List.mem_cons.1 hy with rfl | hy
  · exact h
  · exact h' y hy
theorem WordsAll.app {xs ys : List In} (h : WordsAll xs) (h' : WordsAll ys) : WordsAll (xs ++ ys) := fun y hy => (List.mem_append.1 hy).elim (h y) (h' y)
theorem WordsAll.iN {op m : Int} {xs : List In} (h' : WordsAll xs) : WordsAll (iN op m :: xs) := WordsAll.cons words0 h'
theorem wrd_S : ∀ (ks : List Ex) (p : Nat), (∀ e ∈ ks, ∀ p, WordsAll (cE g ad e p)) -> WordsAll (cS g ad ks p)
  | [], _, _ => WordsAll.nil
  | e :: es, p, h => by
    rw [cS]
    exact (h e (by simp) p).app (wrd_S es _ fun x hx => h x (by simp [hx]))
theorem wrd_A (fin : Nat) : ∀ (ks : List Ex) (p : Nat), (∀ e ∈ ks, ∀ p, WordsAll (cE g ad e p)) -> WordsAll (cA g ad ks p fin)
  | [], _, _ => WordsAll.nil
  | e :: es, p, h => by
    rw [cA]
    split
    · exact h e (by simp) p
    · exact ((h e (by simp) _).app ((wrd_A fin es _ fun x hx => h x (by simp [hx])).iN)).iN
theorem wrd_star {xs : List In} {p : Nat} (h : WordsAll xs) : WordsAll (starI xs p) := (h.app WordsAll.nil.iN).iN
theorem wrd_E (e : Ex) : WfE e -> ∀ p, WordsAll (cE g ad e p) := by
  refine Ex.ind (P := fun e => WfE e -> ∀ p, WordsAll (cE g ad e p)) ?_ e
  intro k a b c d t ks ih hw p
  cases hw with
  | mk _ _ _ _ _ _ _ hk64 wa wb wc wd wks =>
  have hks : ∀ e ∈ ks, ∀ p, WordsAll (cE g ad e p) := fun e he => ih e he (wks e he)
  rw [cE]
  by_cases h2 : k = 2
  · rw [if_pos h2]
    refine WordsAll.cons (fun i => ?_) WordsAll.nil
    show ([a.toNat, b.toNat, c.toNat, d.toNat] : List Nat).getD i 0 < _
    obtain ⟨a1, a2⟩ := wa
    obtain ⟨b1, b2⟩ := wb
    obtain ⟨c1, c2⟩ := wc
    obtain ⟨d1, d2⟩ := wd
    match i with
    | 0 => simp; omega
    | 1 => simp; omega
    | 2 => simp; omega
    | 3 => simp; omega
    | i + 4 => simp
  rw [if_neg h2]
  by_cases h3 : k = 3
  · rw [if_pos h3]
    intro x hx
    obtain ⟨u, _, rfl⟩ := List.mem_map.1 hx
    exact litI_words u
  rw [if_neg h3]
  by_cases h4 : k = 4
  · rw [if_pos h4]; exact WordsAll.nil.iN
  rw [if_neg h4]
  by_cases h5 : k = 5
  · rw [if_pos h5]; exact wrd_S ks p hks
  rw [if_neg h5]
  by_cases h6 : k = 6
  · rw [if_pos h6]; exact wrd_A _ ks p hks
  rw [if_neg h6]
  cases ks with
  | nil => rw [cK]; exact WordsAll.nil
  | cons e es =>
    have he := hks e (by simp)
    rw [cK]
    split
    · exact wrd_star (he _)
    split
    · exact (he _).app (wrd_star (he _))
    split
    · exact ((he _).app WordsAll.nil.iN).iN
    split
    · exact ((he _).app WordsAll.nil.iN.iN).iN
    split
    · exact ((he _).app WordsAll.nil.iN).iN
    · exact WordsAll.nil
theorem wrd_R : ∀ (rs : List Rl) (p : Nat), (∀ r ∈ rs, WfE r.2) -> WordsAll (cR g ad rs p)
  | [], _, _ => WordsAll.nil
  | r :: rs, p, h => by
    rw [cR]
    exact (wrd_E r.2 (h r (by simp)) p).app (wrd_R rs _ fun x hx => h x (by simp [hx])).iN
end
theorem codeG_words {g : List Rl} (h : ∀ r ∈ g, WfE r.2) : ∀ x ∈ codeG g, Words x.set := (wrd_R g 2 h).iN.iN
theorem code_says {g : List Rl} (hm : makR g = 0) {s : List UInt8} (h60 : s.length <= 60) {r : Rl} (hr : g[0]? = some r) {n : Nat} {o : Option Nat} (h : evJ g s n (.ex r.2) 0 = some o) {C : Nat} (hC : C = cost g s n (.ex r.2) 0) (h20 : C <= 1048575) : codeM (codeG g) s (16 * (C : Int) + 16) = outN o := by
  obtain ⟨W, _, hl⟩ := makR_zero hm
  obtain ⟨k, hk, hf⟩ := code_runs W h60 hr h
  unfold codeM
  rw [codeG_ok W.right.pos W.right.rt hl, if_neg (by simp), if_neg (by omega), if_neg (by omega)]
  have e1 : (16 * (C : Int) + 16).toNat = k + 1 + (16 * C + 16 - (k + 1)) := by omega
  rw [e1]
  exact hf _
theorem outCR_N (o : Option Nat) : outCR (outN o) = .tuple #[outV o, .int .i64 0] := by cases o <;> rfl
theorem one_of {α : Type} {l : List α} (h : l.length = 1) : ∃ x, l = [x] := by
  match l, h with
  | [x], _ => exact ⟨x, rfl⟩
theorem nil_of {α : Type} {l : List α} (h : l.length = 0) : l = [] := List.eq_nil_of_length_eq_zero h
theorem of_zero {g : List Rl} {kn : List Fa} : ofE g kn (.mk 1 0 0 0 0 ⟨#[]⟩ []) = ⟨true, false, false⟩ := by rw [ofE, if_pos rfl]
section
variable {g : List Rl} {s : List UInt8}
theorem semR_next {x : Ex} {p q : Nat} {o : Option Nat} (h : Sem g s x p (some q)) (h' : ∃ n, evR g s n x q = some o) : ∃ n, evR g s n x p = some o := by
  obtain ⟨n, h⟩ := h
  obtain ⟨m, h'⟩ := h'
  exact ⟨max n m + 1, by rw [evR_s, ev_le h (Nat.le_max_left _ _)]; exact evR_le h' (Nat.le_max_right _ _)⟩
theorem semR_stop {x : Ex} {p : Nat} (h : Sem g s x p none) : ∃ n, evR g s n x p = some (some p) := by
  obtain ⟨n, h⟩ := h
  exact ⟨n + 1, by rw [evR_s, h]⟩
theorem semS_next {x : Ex} {xs : List Ex} {p q : Nat} {o : Option Nat} (h : Sem g s x p (some q)) (h' : ∃ n, evS g s n xs q = some o) : ∃ n, evS g s n (x :: xs) p = some o := by
  obtain ⟨n, h⟩ := h
  obtain ⟨m, h'⟩ := h'
  exact ⟨max n m + 1, by rw [evS_cons, ev_le h (Nat.le_max_left _ _)]; exact evS_le h' (Nat.le_max_right _ _)⟩
theorem semS_stop {x : Ex} {xs : List Ex} {p : Nat} (h : Sem g s x p none) : ∃ n, evS g s n (x :: xs) p = some none := by
  obtain ⟨n, h⟩ := h
  exact ⟨n + 1, by rw [evS_cons, h]⟩
theorem semA_next {x : Ex} {xs : List Ex} {p : Nat} {o : Option Nat} (h : Sem g s x p none) (h' : ∃ n, evA g s n xs p = some o) : ∃ n, evA g s n (x :: xs) p = some o := by
  obtain ⟨n, h⟩ := h
  obtain ⟨m, h'⟩ := h'
  exact ⟨max n m + 1, by rw [evA_cons, ev_le h (Nat.le_max_left _ _)]; exact evA_le h' (Nat.le_max_right _ _)⟩
theorem semA_stop {x : Ex} {xs : List Ex} {p q : Nat} (h : Sem g s x p (some q)) : ∃ n, evA g s n (x :: xs) p = some (some q) := by
  obtain ⟨n, h⟩ := h
  exact ⟨n + 1, by rw [evA_cons, h]⟩
theorem sem_of_S {a b c d : Int} {t : ByteArray} {ks : List Ex} {p : Nat} {o : Option Nat} (h : ∃ n, evS g s n ks p = some o) : Sem g s (.mk 5 a b c d t ks) p o := by
  obtain ⟨n, h⟩ := h
  exact ⟨n + 1, by rw [ev_s, if_neg (by decide), if_neg (by decide), if_neg (by decide), if_neg (by decide), if_pos rfl]; exact h⟩
theorem sem_of_A {a b c d : Int} {t : ByteArray} {ks : List Ex} {p : Nat} {o : Option Nat} (h : ∃ n, evA g s n ks p = some o) : Sem g s (.mk 6 a b c d t ks) p o := by
  obtain ⟨n, h⟩ := h
  exact ⟨n + 1, by rw [ev_s, if_neg (by decide), if_neg (by decide), if_neg (by decide), if_neg (by decide), if_neg (by decide), if_pos rfl]; exact h⟩
theorem sem_of_K {k a b c d : Int} {t : ByteArray} {x : Ex} {ks : List Ex} {p : Nat} {o : Option Nat} (h7 : 7 <= k) (h : ∃ n, evK g s n k x p = some o) : Sem g s (.mk k a b c d t (x :: ks)) p o := by
  obtain ⟨n, h⟩ := h
  exact ⟨n + 1, by rw [ev_s, if_neg (by omega), if_neg (by omega), if_neg (by omega), if_neg (by omega), if_neg (by omega), if_neg (by omega)]; exact h⟩
theorem semK_star {x : Ex} {p : Nat} {o : Option Nat} (h : ∃ n, evR g s n x p = some o) : ∃ n, evK g s n 7 x p = some o := by
  obtain ⟨n, h⟩ := h
  exact ⟨n + 1, by rw [evK_s, if_pos rfl]; exact h⟩
theorem semK_not {x : Ex} {p : Nat} {o : Option Nat} (h : Sem g s x p o) : ∃ n, evK g s n 11 x p = some (if o = none then some p else none) := by
  obtain ⟨n, h⟩ := h
  refine ⟨n + 1, ?_⟩
  rw [evK_s, if_neg (by decide), h]
  cases o <;> simp
end
end Go.Proofs.Ytkmcnekjimobhaa
