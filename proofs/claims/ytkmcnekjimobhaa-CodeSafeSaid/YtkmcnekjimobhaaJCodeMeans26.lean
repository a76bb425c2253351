/- pack.Run: what it answers. mean.Run: what it answers. CodeMeans: the walk of the law. Within: a number made small. -/
import Derived.Test.YtkmcnekjimobhaaJCodeMeans24
import Derived.Test.YtkmcnekjimobhaaJCodeMeans4
import Derived.BigQuiet
import Derived.Deep.QuietTactic
import Derived.Test.YtkmcnekjimobhaaJCodeMeans25
import Derived.Test.YtkmcnekjimobhaaJCodeMeans20
import Derived.Test.YtkmcnekjimobhaaJCodeMeans22
import Derived.Test.YtkmcnekjimobhaaJCodeMeans0
namespace Go.Proofs.Ytkmcnekjimobhaa
open Go.RowKit Go.Maps

theorem ownsRow_low {w : World} {base base' n size : Nat} {e : TypeId} {v : Value} {xs : List Value} (h : w.ownsRow base e size v n xs) (hb : base' ≤ base) : w.ownsRow base' e size v n xs := by
  refine ⟨h.1, ?_⟩
  rcases h.2 with h0 | ⟨g, cap, cur, h1, h2, h3⟩
  · exact .inl h0
  · exact .inr ⟨g, cap, cur, h1, by omega, h3⟩
theorem pk_last {g : List Rl} {s : List UInt8} {m i p : Nat} {o : Option Nat} {σ1 : PS} (h : pk g s false m (.rule i) p ps0 = some (o, σ1)) : ∃ l', σ1.log = l' ++ [(i, p, o.map (· - p))] := by
  cases m with
  | zero => cases h
  | succ m =>
    simp only [pk] at h
    have h0 : recall ps0.seen (i, p) = none := rfl
    rw [h0] at h
    simp only at h
    split at h
    · cases h
    · split at h
      · cases h
      · split at h
        · cases h
        · simp only [Option.some.injEq, Prod.mk.injEq] at h
          obtain ⟨rfl, rfl⟩ := h
          exact ⟨_, rfl⟩
/-- what Run answers -/
def RunQ (g : List Rl) (s : ByteArray) (w : World) (e : Ending) (w' : World) : Prop := Below w.heap.size w w' ∧
  ((lookG g s ≠ 0 ∧ e = .returned (.tuple #[outV none, .slice none 0 0, .int .i64 (lookG g s)])) ∨
   (lookG g s = 0 ∧ ∃ (o : Option Nat) (σ1 : PS) (V : Option Addr) (cp : Nat) (l' : List (Nat × Nat × Option Nat)), (∃ m, pk g s.data.toList false m (.rule 0) 0 ps0 = some (o, σ1)) ∧ Agree g s.data.toList σ1 ∧ Tight g s.size σ1 ∧ σ1.log = l' ++ [(0, 0, o)] ∧
     e = .returned (.tuple #[outV o, .slice V σ1.log.length cp, .int .i64 0]) ∧ w'.ownsRow w.heap.size 159 4 (.slice V σ1.log.length cp) σ1.log.length (σ1.log.flatMap stepC)))

set_option maxRecDepth 100000 in
set_option maxHeartbeats 8000000 in
theorem run_any {g : List Rl} {A : Option Addr} {cp : Nat} {row : Nat → List Value} {w : World} (h : GrIs w w.heap.size g A cp row) (hwf : ∀ r ∈ g, WfE r.2) (s : ByteArray) :
    Calls Try.prog 15 #[.agg #[.slice A g.length cp], .string s] w (RunQ g s w) := by
  have hlk := fun W (hW : Below w.heap.size w W) => mlook_any ((h.on hW).more hW.size) s
  have HLK := Lib.hid hlk
  have HG := Lib.hid h
  have HWF := Lib.hid hwf
  clear hlk h hwf
  by_cases hl0 : lookG g s = 0
  · obtain ⟨W, h60⟩ := look_zero hl0
    rw [hl0] at HLK
    have HL0 := Lib.hid hl0
    have HW := Lib.hid W
    have h10 := W.right.ten
    have hpos := W.right.pos
    clear hl0 W
    obtain ⟨r, hr⟩ : ∃ r, g[0]? = some r := ⟨_, List.getElem?_eq_getElem hpos⟩
    have hsl : s.data.toList.length = s.size := size_list s
    obtain ⟨o, m, σ1, hsem, hpk, hag⟩ := rule_goes HW.out s.data.toList hr (p := 0) (by omega)
    have hnew := fun W (hW : Below w.heap.size w W) => new_any ((HG.out.on hW).more hW.size) hpos h10 (sixty_of HW.out.right) s
    have HN := Lib.hid hnew
    have HPK := Lib.hid hpk
    have HAG := Lib.hid hag
    clear hnew hpk hsem hr hag
    go_enter Try.func15, Try.ntmps15
    go_wp2_with fail
    refine (HLK.out _ (by repeat (first | exact Below.refl _ _ | assumption | refine Below.drew ?_ | refine below_drewN ?_ _ | refine Below.alloc ?_ (by first | omega | (simp; omega) | simp) _ | refine Below.setCell ?_ (by first | omega | (simp; omega) | simp) _))).mono ?_
    rintro e w1 ⟨rfl, hb1⟩
    have hw1 : Below w.heap.size w w1 := (((Below.refl _ w).alloc (Nat.le_refl _) _).alloc (by simp) _).trans (hb1.mono (by simp; omega))
    have hgx : Blk w1 w.heap.size 24 #[.slice A g.length cp] := ((blk_at rfl).alloc _).below hb1 (by simp; omega)
    have hox : Blk w1 (w.heap.size + 1) 41 #[.bool false, .int .i64 0] := (blk_at (by simp)).below hb1 (by simp)
    have g0 : w1.cell? ⟨w.heap.size, 0, none⟩ = some (.slice A g.length cp) := hgx.cell 0
    clear hb1
    go_wp2_with fail
    refine (HN.out _ hw1).mono ?_
    rintro e w2 ⟨c, hcg, hcs, hch, ⟨hhk, hlm, -⟩, rfl, hok, hpar, hb2, hcB⟩
    have hw2 : Below w.heap.size w w2 := hw1.trans (hb2.mono hw1.size)
    have hox2 := hox.below hb2 hox.lt
    have F : c.Fit := PC.fit (by rw [hcg]; exact HW.out) (by rw [hcs]; exact h60) hok hhk hlm hch (by rw [hcg]; exact HWF.out)
    have hru := (does F m).2.2 0 0 ps0 (o, σ1) w2 (by rw [hcg, hcs, hhk]; exact HPK.out) (by rw [hcg]; exact hpos) (by omega) (bound0 _) hpar
    have HRU := Lib.hid hru
    have hzw := hw1.size
    have hxl := hox.lt
    have hBP := hok.BP
    have hBM := hok.BM
    have hBb := hok.Bb
    have hPs := hpar.size
    have hPb := hok.P
    clear hru hb2
    go_wp2_with fail
    refine HRU.out.mono ?_
    rintro e w3 ⟨⟨v, rfl, hv⟩, q1, q2⟩
    obtain ⟨b, n, hbn⟩ : ∃ (b : Bool) (n : Int), outV v = .agg #[.bool b, .int .i64 n] := by cases v <;> exact ⟨_, _, rfl⟩
    have hvo : v = o := by
      simp only at hv
      rw [hv]
      cases v with
      | none => rfl
      | some k => simp
    subst hvo
    obtain ⟨lv, hP, hrow⟩ := q1.par
    have hti := q1.tight
    obtain ⟨V, lc, rfl⟩ := own_form hrow
    obtain ⟨l', hl'⟩ := pk_last HPK.out
    rw [show v.map (· - 0) = v by cases v <;> rfl] at hl'
    rw [hcg, hcs, hsl] at hti
    have hox3 : Blk w3 (w.heap.size + 1) 41 #[.bool false, .int .i64 0] := q2.box hox2 (by decide) (by omega) (by omega)
    have hw3 : Below w.heap.size w w3 := hw2.trans (q2.below (by have := hw2.size; omega) (by omega) (by omega) (by omega))
    have hrow3 : (((w3.setCell ⟨w.heap.size + 1, 0, none⟩ (.bool b)).setCell ⟨w.heap.size + 1, 1, none⟩ (.int .i64 n)).alloc (.cells #[.bool b, .int .i64 n] 41)).drew.ownsRow w.heap.size 159 4 (.slice V σ1.log.length lc) σ1.log.length (σ1.log.flatMap stepC) := by
      have hne : ∀ (W : World), World.ownsRow W c.base 159 4 (.slice V σ1.log.length lc) σ1.log.length (σ1.log.flatMap stepC) → ∀ i u, World.ownsRow (W.setCell ⟨w.heap.size + 1, i, none⟩ u) c.base 159 4 (.slice V σ1.log.length lc) σ1.log.length (σ1.log.flatMap stepC) := fun W hW i u =>
        own_far hW (g := w.heap.size + 1) ⟨rfl, rfl, rfl, by simp [World.setCell], fun q hq hne => Below.heap_setCell W ⟨w.heap.size + 1, i, none⟩ u q (by rintro rfl; exact hne rfl)⟩ (by omega)
      have h0 := own_below (hne _ (hne _ hrow 0 (.bool b)) 1 (.int .i64 n)) ((Below.refl _ _).alloc (Nat.le_refl _) (.cells #[.bool b, .int .i64 n] 41))
      exact ownsRow_low h0 (by omega)
    have s3 : w3.cell? ⟨c.P, 3, none⟩ = some (.slice V σ1.log.length lc) := hP.cell 3
    have hox4 : Blk (w3.alloc (.cells #[.bool b, .int .i64 n] 41)) (w.heap.size + 1) 41 #[.bool false, .int .i64 0] := hox3.alloc _
    have hbx4 : Blk (w3.alloc (.cells #[.bool b, .int .i64 n] 41)) w3.heap.size 41 #[.bool b, .int .i64 n] := blk_at rfl
    have yz0 : w3.cell? ⟨w.heap.size + 1, 0, none⟩ = some (.bool false) := hox3.cell 0; have yz1 : w3.cell? ⟨w.heap.size + 1, 1, none⟩ = some (.int .i64 0) := hox3.cell 1; have yf0 := hox3.frozen 0; have yf1 := hox3.frozen 1; have ye0 : (w3.setCell ⟨w.heap.size + 1, 0, none⟩ (.bool b)).cell? ⟨w.heap.size + 1, 0, none⟩ = some (.bool b) := (hox3.set_ 0 _).cell 0; have ye1 : ((w3.setCell ⟨w.heap.size + 1, 0, none⟩ (.bool b)).setCell ⟨w.heap.size + 1, 1, none⟩ (.int .i64 n)).cell? ⟨w.heap.size + 1, 1, none⟩ = some (.int .i64 n) := ((hox3.set_ 0 _).set_ 1 _).cell 1
    have hox6 := ((((hox3.set_ 0 (.bool b)).set_ 1 (.int .i64 n)).alloc (.cells #[.bool b, .int .i64 n] 41)).drew)
    have yg0 : (((w3.setCell ⟨w.heap.size + 1, 0, none⟩ (.bool b)).setCell ⟨w.heap.size + 1, 1, none⟩ (.int .i64 n)).alloc (.cells #[.bool b, .int .i64 n] 41)).drew.cell? ⟨w.heap.size + 1, 0, none⟩ = some (.bool b) := hox6.cell 0
    have yg1 : (((w3.setCell ⟨w.heap.size + 1, 0, none⟩ (.bool b)).setCell ⟨w.heap.size + 1, 1, none⟩ (.int .i64 n)).alloc (.cells #[.bool b, .int .i64 n] 41)).drew.cell? ⟨w.heap.size + 1, 1, none⟩ = some (.int .i64 n) := hox6.cell 1
    have HG0 := Lib.hid yg0
    have HG1 := Lib.hid yg1
    clear yg0 yg1 hox6
    have z0 : w3.cell? ⟨w.heap.size + 1, 0, none⟩ = some (.bool false) := hox3.cell 0
    have z1 : w3.cell? ⟨w.heap.size + 1, 1, none⟩ = some (.int .i64 0) := hox3.cell 1
    have f0 := hox3.frozen 0
    have f1 := hox3.frozen 1
    have hl3 := hox3.lt
    have hPl := hP.lt
    have hPne : c.P ≠ w.heap.size + 1 := by omega
    have hne3 : w3.heap.size ≠ w.heap.size + 1 := by omega
    have HTI := Lib.hid hti
    have HRW := Lib.hid hrow3
    have HLL := Lib.hid hl'
    rw [hbn]
    clear q1 q2 HRU hpar hok F hrow hP hti hrow3 hl' hox4 hbx4
    go_wp2_with fail
    go_region
    all_goals
      go_wp2
      exact bodyPost_ret (v := .tuple #[.agg #[.bool b, .int .i64 n], .slice V σ1.log.length lc, .int .i64 0]) (by simp only [results, Try.results15]; simp [go_sem, HG0.out, HG1.out]) rfl ⟨(by repeat (first | exact Below.refl _ _ | assumption | refine Below.drew ?_ | refine below_drewN ?_ _ | refine Below.alloc ?_ (by first | omega | (simp; omega) | simp) _ | refine Below.setCell ?_ (by first | omega | (simp; omega) | simp) _)), .inr ⟨HL0.out, v, σ1, V, lc, l', ⟨m, HPK.out⟩, HAG.out, HTI.out, HLL.out, by rw [hbn], HRW.out⟩⟩
  · have hxb : (lookG g s != 0) = true := by rw [bne_iff_ne]; exact hl0
    have H0 := Lib.hid hl0
    have HX : Hid (∃ x, lookG g s = x ∧ x ≠ 0) := ⟨_, rfl, hl0⟩
    clear hl0
    go_enter Try.func15, Try.ntmps15
    go_wp2_with fail
    refine (HLK.out _ (by repeat (first | exact Below.refl _ _ | assumption | refine Below.drew ?_ | refine below_drewN ?_ _ | refine Below.alloc ?_ (by first | omega | (simp; omega) | simp) _ | refine Below.setCell ?_ (by first | omega | (simp; omega) | simp) _))).mono ?_
    rintro e w1 ⟨rfl, hb1⟩
    have hw1 : Below w.heap.size w w1 := (((Below.refl _ w).alloc (Nat.le_refl _) _).alloc (by simp) _).trans (hb1.mono (by simp; omega))
    have hox : Blk w1 (w.heap.size + 1) 41 #[.bool false, .int .i64 0] := (blk_at (by simp)).below hb1 (by simp)
    have yz0 : w1.cell? ⟨w.heap.size + 1, 0, none⟩ = some (.bool false) := hox.cell 0; have yz1 : w1.cell? ⟨w.heap.size + 1, 1, none⟩ = some (.int .i64 0) := hox.cell 1; have yf0 := hox.frozen 0; have yf1 := hox.frozen 1; have ye0 : (w1.setCell ⟨w.heap.size + 1, 0, none⟩ (.bool false)).cell? ⟨w.heap.size + 1, 0, none⟩ = some (.bool false) := (hox.set_ 0 _).cell 0; have ye1 : ((w1.setCell ⟨w.heap.size + 1, 0, none⟩ (.bool false)).setCell ⟨w.heap.size + 1, 1, none⟩ (.int .i64 0)).cell? ⟨w.heap.size + 1, 1, none⟩ = some (.int .i64 0) := ((hox.set_ 0 _).set_ 1 _).cell 1
    have hzw := hw1.size
    clear hb1
    go_wp2
    exact bodyPost_ret (v := .tuple #[.agg #[.bool false, .int .i64 0], .slice none 0 0, .int .i64 (lookG g s)]) (by simp [results, Try.results15, go_sem, ye0, ye1]) rfl ⟨(by repeat (first | exact Below.refl _ _ | assumption | refine Below.drew ?_ | refine below_drewN ?_ _ | refine Below.alloc ?_ (by first | omega | (simp; omega) | simp) _ | refine Below.setCell ?_ (by first | omega | (simp; omega) | simp) _)), .inl ⟨H0.out, rfl⟩⟩
end Go.Proofs.Ytkmcnekjimobhaa

/- The law PackRest: plain; outcomes compared; what stands ahead makes no difference. -/
namespace Go.Proofs.Ytkmcnekjimobhaa
open Go.RowKit Go.Maps

theorem run_same_out (w : World) (b b' : Bool) (n n' : Int) : (Op.equalIn 10000 41 (.agg #[.bool b, .int .i64 n]) (.agg #[.bool b', .int .i64 n'])).run Try.prog w = .ok (b == b' && n == n') w := by
  have u4 := Try.underlying4
  have a4 := Try.isAgg4
  have z4 := Try.sizeOf4
  have u3 := Try.underlying3
  have a3 := Try.isAgg3
  have z3 := Try.sizeOf3
  have hS : Try.prog.underlying 41 = some (.struct (Try.prog.fieldsOf 41)) := by kernel_rfl
  have hp : Try.prog.stoodInHeld 41 = false := by kernel_rfl
  rw [show (10000 : Nat) = 9999 + 1 from rfl, run_equalIn_agg w 9999 41 _ _ hS hp]
  simp only [Program.fieldsOf, Try.underlying41]
  go_simp
  cases b <;> cases b' <;> cases h : (n == n') <;> simp_all
theorem outV_eq (v : Option Nat) : outV v = .agg #[.bool v.isSome, .int .i64 (v.getD 0 : Nat)] := by cases v <;> rfl
def ltX : ByteArray := ⟨#[120]⟩
theorem rest_look : lookG [(nameA, litE ⟨#[120]⟩)] ⟨#[121, 120]⟩ = 0 := by decide +kernel
theorem rest_ev : ev [(nameA, litE ⟨#[120]⟩)] [121, 120] 1 (litE ⟨#[120]⟩) 1 = some (some 2) := by decide +kernel

section
variable {g : List Rl} (a s : List UInt8)
theorem bt_past (p : Nat) : bt (a ++ s) (a.length + p) = bt s p := by
  unfold bt
  rw [List.getD_eq_getElem?_getD, List.getD_eq_getElem?_getD, List.getElem?_append_right (by omega), Nat.add_sub_cancel_left]
theorem lit_past (p : Nat) (t : List UInt8) : litAt (a ++ s) (a.length + p) t = litAt s p t := by
  unfold litAt
  rw [List.drop_append, List.drop_of_length_le (by omega), List.nil_append, Nat.add_sub_cancel_left]
theorem ev_past : ∀ n j p, evJ g (a ++ s) n j (a.length + p) = (evJ g s n j p).map (Option.map (a.length + ·)) := by
  intro n
  induction n with
  | zero => intro j p; rfl
  | succ n ih =>
    intro j p
    cases j with
    | ex e =>
      obtain ⟨k, x1, x2, x3, x4, t, ks⟩ := e
      have h1 := ev_s g (a ++ s) n k x1 x2 x3 x4 t ks (a.length + p)
      have h2 := ev_s g s n k x1 x2 x3 x4 t ks p
      unfold ev at h1 h2
      rw [h1, h2, bt_past, lit_past]
      unfold evS evA evK
      split
      · rfl
      split
      · by_cases hc : p < s.length ∧ hasE x1 x2 x3 x4 (bt s p) = true
        · rw [if_pos hc, if_pos ⟨by rw [List.length_append]; omega, hc.2⟩]; simp; omega
        · rw [if_neg hc, if_neg (fun h => hc ⟨by have := h.1; rw [List.length_append] at this; omega, h.2⟩)]; rfl
      split
      · split
        · simp; omega
        · rfl
      split
      · cases g[(fnd g t.data.toList).toNat]? with
        | none => rfl
        | some r => exact ih _ p
      split
      · exact ih _ p
      split
      · exact ih _ p
      cases ks with
      | nil => rfl
      | cons e es => exact ih _ p
    | kid k e =>
      have h1 := evK_s g (a ++ s) n k e (a.length + p)
      have h2 := evK_s g s n k e p
      unfold evK ev evR at h1 h2
      rw [h1, h2, ih (.ex e) p, ih (.rep e) p]
      split
      · rfl
      cases evJ g s n (.ex e) p with
      | none => rfl
      | some o =>
        cases o with
        | none =>
          simp only [Option.map_some, Option.map_none]
          split <;> rfl
        | some q =>
          simp only [Option.map_some]
          split
          · exact ih _ q
          split
          · rfl
          split <;> rfl
    | seq es =>
      cases es with
      | nil => rfl
      | cons e es =>
        have h1 := evS_cons g (a ++ s) n e es (a.length + p)
        have h2 := evS_cons g s n e es p
        unfold evS ev at h1 h2
        rw [h1, h2, ih (.ex e) p]
        cases evJ g s n (.ex e) p with
        | none => rfl
        | some o =>
          cases o with
          | none => rfl
          | some q => exact ih _ q
    | alt es =>
      cases es with
      | nil => rfl
      | cons e es =>
        have h1 := evA_cons g (a ++ s) n e es (a.length + p)
        have h2 := evA_cons g s n e es p
        unfold evA ev at h1 h2
        rw [h1, h2, ih (.ex e) p]
        cases evJ g s n (.ex e) p with
        | none => rfl
        | some o =>
          cases o with
          | none => exact ih _ p
          | some q => rfl
    | rep e =>
      have h1 := evR_s g (a ++ s) n e (a.length + p)
      have h2 := evR_s g s n e p
      unfold evR ev at h1 h2
      rw [h1, h2, ih (.ex e) p]
      cases evJ g s n (.ex e) p with
      | none => rfl
      | some o =>
        cases o with
        | none => rfl
        | some q => exact ih _ q
end
theorem look_same {g : List Rl} {s t : ByteArray} (hs : s.size ≤ 60) (ht : t.size ≤ 60) : lookG g s = lookG g t := by
  unfold lookG
  rw [if_neg (by omega : ¬ 60 < s.size), if_neg (by omega : ¬ 60 < t.size)]
theorem rest_law {g : List Rl} {i : Int} {a s t : ByteArray} {v v' : Option Nat} {x x' : Int} (ht : t.data.toList = a.data.toList ++ s.data.toList) (h60 : a.size + s.size ≤ 60) (h : AtR g i t a.size v x) (h' : AtR g i s 0 v' x') : v = v' ∧ x = x' := by
  have l1 : a.data.toList.length = a.size := size_list a
  have l2 : s.data.toList.length = s.size := size_list s
  have l3 : t.size = a.size + s.size := by
    have l3 : t.data.toList.length = t.size := size_list t
    rw [← l3, ht, List.length_append, l1, l2]
  have hl : lookG g t = lookG g s := look_same (by omega) (by omega)
  rcases h with ⟨h1, rfl, rfl⟩ | ⟨h1, h2, rfl, rfl⟩ | ⟨h1, j, q, r, o, rfl, hq, hqs, hr, hsem, rfl, rfl⟩ <;> rcases h' with ⟨h1', rfl, rfl⟩ | ⟨h1', h2', rfl, rfl⟩ | ⟨h1', j', q', r', o', hj, hq', hqs', hr', hsem', rfl, rfl⟩
  · exact ⟨rfl, hl⟩
  · exact absurd (hl.trans h1') h1
  · exact absurd (hl.trans h1') h1
  · exact absurd (hl.symm.trans h1) h1'
  · exact ⟨rfl, rfl⟩
  · exfalso
    have := getElem?_lt hr'
    omega
  · exact absurd (hl.symm.trans h1) h1'
  · exfalso
    have := getElem?_lt hr
    omega
  · have : j = j' := by omega
    subst this
    rw [hr] at hr'
    injection hr' with hr'
    subst hr'
    have hq1 : q = a.size := by omega
    have hq2 : q' = 0 := by omega
    subst hq1 hq2
    obtain ⟨n, hn⟩ := hsem
    obtain ⟨m, hm⟩ := hsem'
    have hp := ev_past (g := g) a.data.toList s.data.toList m (.ex r.2) 0
    rw [show evJ g s.data.toList m (.ex r.2) 0 = some o' from hm, Nat.add_zero, l1, ← ht] at hp
    have := ev_eq hn hp
    subst this
    refine ⟨?_, rfl⟩
    cases o' with
    | none => rfl
    | some q => simp
end Go.Proofs.Ytkmcnekjimobhaa

/- list.Accepts: what it answers; the errors that a look may tell. -/
namespace Go.Proofs.Ytkmcnekjimobhaa
open Go.RowKit Go.Maps

theorem look_lt : ∀ (e : Ex) (n d : Nat), 0 ≤ (lookN e n d).1 ∧ (lookN e n d).1 ≤ 5 := by
  intro e
  refine Ex.ind (P := fun e => ∀ (n d : Nat), 0 ≤ (lookN e n d).1 ∧ (lookN e n d).1 ≤ 5) ?_ e
  intro k a b c d t ks ih n dp
  rw [lookN]
  split
  · simp only; omega
  split
  · simp only; omega
  split
  · simp only; omega
  · have : ∀ (es : List Ex), (∀ e ∈ es, e ∈ ks) → ∀ n d, 0 ≤ (looks es n d).1 ∧ (looks es n d).1 ≤ 5 := by
      intro es
      induction es with
      | nil => intro _ n d; rw [looks]; simp only; omega
      | cons e es ihe =>
        intro hm n d
        rw [looks]
        split
        · exact ihe (fun x hx => hm x (by simp [hx])) _ _
        · exact ih e (hm e (by simp)) n d
    exact this ks (fun e he => he) _ _
theorem check_lt (g : List Rl) : 0 ≤ checkG g ∧ checkG g ≤ 7 := by
  have h1 : ∀ (l : List Rl) (i all : Nat), 0 ≤ (chk1 g l i all).1 ∧ (chk1 g l i all).1 ≤ 7 := by
    intro l
    induction l with
    | nil => intro i all; rw [chk1]; simp only; omega
    | cons r l ih =>
      intro i all
      rw [chk1]
      split
      · simp only; omega
      split
      · simp only; omega
      split
      · have := look_lt r.2 0 1
        simp only
        unfold checkE
        omega
      · exact ih _ _
  have h2 : ∀ (l : List Rl), 0 ≤ chk2 g l ∧ chk2 g l ≤ 7 := by
    intro l
    induction l with
    | nil => rw [chk2]; omega
    | cons r l ih =>
      rw [chk2]
      split
      · omega
      · exact ih
  unfold checkG
  split
  · omega
  split
  · omega
  split
  · exact h1 g 0 0
  split
  · omega
  · exact h2 g
theorem lookG_lt (g : List Rl) (s : ByteArray) : 0 ≤ lookG g s ∧ lookG g s ≤ 9 := by
  have h := check_lt g
  have hw : 0 ≤ (wellG g).2 ∧ (wellG g).2 ≤ 9 := by
    unfold wellG
    split
    · simp only; omega
    · split
      · simp only; omega
      · split <;> simp only <;> omega
  unfold lookG
  split
  · exact hw
  · split <;> omega

section
variable {g : List Rl} {s : List UInt8} {hook : Bool} {fs : List Fa}
/-- what a try makes is what the grammar means -/
theorem pk_goesA (H : Fits g fs) {n m num p : Nat} {e : Ex} {u u' : Option Nat} {σ σ1 : PS} (hrt : Rt g e) (hp : p ≤ s.length) (he : ev g s n e p = some u) (hσ : Agree g s σ) (h : pk g s hook m (.try_ e num) p σ = some (u', σ1)) : u' = u ∧ Agree g s σ1 := by
  obtain ⟨m0, σ0, h0, ha, _⟩ := ((goes (hook := hook) H n).1 e p u hrt hp he σ num hσ).try_
  have e1 := pk_le h0 (Nat.le_max_left m0 m)
  have e2 := pk_le h (Nat.le_max_right m0 m)
  rw [e1] at e2
  injection e2 with e2
  injection e2 with e2 e3
  subst e2 e3
  exact ⟨rfl, ha⟩
end
/-- what Run finds is what the grammar means -/
theorem sem_run {g : List Rl} (W : WellG g) {s : List UInt8} {n m : Nat} {r : Rl} {o o' : Option Nat} {σ1 : PS} (hr : g[0]? = some r) (he : ev g s n r.2 0 = some o) (hpk : pk g s false m (.rule 0) 0 ps0 = some (o', σ1)) : o' = o := by
  cases m with
  | zero => cases hpk
  | succ m =>
    have H := fits_of W.right
    have hrt := W.right.rt r (List.mem_of_getElem? hr)
    simp only [pk] at hpk
    have h0 : recall ps0.seen (0, 0) = none := rfl
    rw [h0, hr] at hpk
    simp only at hpk
    cases hq : pk g s false m (.try_ r.2 (firstN g 0)) 0 ps0 with
    | none => rw [hq] at hpk; cases hpk
    | some x =>
      obtain ⟨u, σ2⟩ := x
      obtain ⟨rfl, _⟩ := pk_goesA (hook := false) H hrt (Nat.zero_le _) he (agree0 g s) hq
      rw [hq] at hpk
      simp only at hpk
      split at hpk
      · cases hpk
      · simp only [Option.some.injEq, Prod.mk.injEq] at hpk
        obtain ⟨rfl, rfl⟩ := hpk
        rfl

/-- what a grammar makes of a text -/
noncomputable def outG (g : List Rl) (s : ByteArray) : Option Nat := Classical.epsilon fun o => ∃ r, g[0]? = some r ∧ Sem g s.data.toList r.2 0 o
theorem outG_is {g : List Rl} {s : ByteArray} {r : Rl} {o : Option Nat} (hr : g[0]? = some r) (h : Sem g s.data.toList r.2 0 o) : outG g s = o := by
  obtain ⟨r', hr', h'⟩ := Classical.epsilon_spec (p := fun o => ∃ r, g[0]? = some r ∧ Sem g s.data.toList r.2 0 o) ⟨o, r, hr, h⟩
  rw [hr] at hr'
  injection hr' with hr'
  subst hr'
  exact h'.eq h
theorem run_out {g : List Rl} {s : ByteArray} (hl0 : lookG g s = 0) {m : Nat} {o : Option Nat} {σ1 : PS} (h : pk g s.data.toList false m (.rule 0) 0 ps0 = some (o, σ1)) : outG g s = o ∧ ∀ k, o = some k → k ≤ s.size := by
  obtain ⟨W, h60⟩ := look_zero hl0
  have hpos := W.right.pos
  obtain ⟨r, hr⟩ : ∃ r, g[0]? = some r := ⟨_, List.getElem?_eq_getElem hpos⟩
  obtain ⟨n, o', he⟩ := ends (s := s.data.toList) W (p := 0) (by omega) (W.good (List.mem_of_getElem? hr))
  obtain rfl := sem_run W hr he h
  refine ⟨outG_is hr ⟨n, he⟩, fun k hk => ?_⟩
  have ht := (told (s := s.data.toList) (fits_of W.right) n).1 r.2 0 o (W.right.rt r (List.mem_of_getElem? hr)) (by omega) he
  rw [hk] at ht
  have := ht.2.1
  rw [size_list] at this
  exact this
/-- what list.Accepts answers -/
noncomputable def accG (g : List Rl) (s : ByteArray) : Bool := decide (lookG g s = 0) && ((outG g s).isSome && decide ((outG g s).getD 0 = s.size))

set_option maxRecDepth 100000 in
set_option maxHeartbeats 4000000 in
theorem acc_any {g : List Rl} {A : Option Addr} {cp : Nat} {row : Nat → List Value} {w : World} (h : GrIs w w.heap.size g A cp row) (hwf : ∀ r ∈ g, WfE r.2) (s : ByteArray) :
    Calls Try.prog 48 #[.agg #[.slice A g.length cp], .string s] w fun e w' => e = .returned (.tuple #[.bool (accG g s), .int .i64 (lookG g s)]) ∧ Below w.heap.size w w' := by
  have hrn := fun W (hW : Below w.heap.size w W) => run_any (h.grow hW) hwf s
  have HR := Lib.hid hrn
  generalize hY : accG g s = Y
  generalize hX : lookG g s = X
  have HY := Lib.hid hY
  have HX := Lib.hid hX
  clear hrn h hwf hX hY
  go_enter Try.func48, Try.ntmps48
  go_wp2_with fail
  refine (HR.out _ (by repeat (first | exact Below.refl _ _ | assumption | refine Below.drew ?_ | refine below_drewN ?_ _ | refine Below.alloc ?_ (by first | omega | (simp; omega) | simp) _ | refine Below.setCell ?_ (by first | omega | (simp; omega) | simp) _))).mono ?_
  rintro e w1 ⟨hb1, hq⟩
  have hw1 : Below w.heap.size w w1 := ((Below.refl _ w).alloc (Nat.le_refl _) _).trans (hb1.mono (by simp))
  have hz1 := hw1.size
  clear hb1
  rcases hq with ⟨hne, rfl⟩ | ⟨hl0, o, σ1, V, lc, l', ⟨m, hpk⟩, ha, ht, hl, rfl, ho⟩
  · rw [HX.out] at hne ⊢
    have hxb : (X == 0) = false := by rw [beq_eq_false_iff_ne]; exact hne
    obtain rfl : Y = false := by rw [← HY.out]; unfold accG; rw [HX.out, decide_eq_false hne, Bool.false_and]
    rw [outV_eq]
    clear hne HX HY
    go_wp2
    go_ret2
    exact ⟨rfl, (by repeat (first | exact Below.refl _ _ | assumption | refine Below.drew ?_ | refine below_drewN ?_ _ | refine Below.alloc ?_ (by first | omega | (simp; omega) | simp) _ | refine Below.setCell ?_ (by first | omega | (simp; omega) | simp) _))⟩
  · clear ha ht hl ho
    obtain ⟨h1, h2⟩ := run_out hl0 hpk
    have hy : Y = (o.isSome && decide (o.getD 0 = s.size)) := by rw [← HY.out]; unfold accG; rw [hl0, h1]; rfl
    obtain rfl : X = 0 := by rw [← HX.out]; exact hl0
    rw [outV_eq]
    clear hl0 hpk h1 h2 HX HY
    generalize σ1.log.length = ll
    cases o with
    | none =>
      obtain rfl : Y = false := hy
      go_wp2
      go_ret2
      exact ⟨rfl, (by repeat (first | exact Below.refl _ _ | assumption | refine Below.drew ?_ | refine below_drewN ?_ _ | refine Below.alloc ?_ (by first | omega | (simp; omega) | simp) _ | refine Below.setCell ?_ (by first | omega | (simp; omega) | simp) _))⟩
    | some k =>
      have hy2 : Y = decide (k = s.size) := hy
      have hk : ((k : Int) == (s.size : Int)) = decide (k = s.size) := by rw [Bool.eq_iff_iff]; simp; omega
      rw [← hk] at hy2
      clear hk hy
      subst hy2
      simp only [Option.isSome_some, Option.getD_some]
      go_wp2
      go_ret2
      exact ⟨rfl, (by repeat (first | exact Below.refl _ _ | assumption | refine Below.drew ?_ | refine below_drewN ?_ _ | refine Below.alloc ?_ (by first | omega | (simp; omega) | simp) _ | refine Below.setCell ?_ (by first | omega | (simp; omega) | simp) _))⟩

end Go.Proofs.Ytkmcnekjimobhaa
namespace Go.Proofs.Ytkmcnekjimobhaa
open Go.RowKit Go.Maps

theorem run_nout0 (w : World) : (Instr.build 41 #[]).run Try.prog w = .ok (.agg #[.bool false, .int .i64 0]) w := by kernel_rfl

set_option maxRecDepth 100000 in
set_option maxHeartbeats 8000000 in
theorem mrun_any {g : List Rl} {A : Option Addr} {cp : Nat} {row : Nat → List Value} {w : World} (h : GrIs w w.heap.size g A cp row) (hwf : ∀ r ∈ g, WfE r.2) (s : ByteArray) (steps : Int) {C : Nat} {o : Option Nat} (hC : Costs g s C o) :
    Calls Try.prog 28 #[.agg #[.slice A g.length cp], .string s, .int .i64 steps] w (MRunQ g s steps C o w) := by
  have hrn := run_nout0
  have hlk := fun W (hW : Below w.heap.size w W) => mlook_any ((h.on hW).more hW.size) s
  have HLK := Lib.hid hlk
  by_cases hl0 : lookG g s = 0
  · rw [hl0] at HLK
    by_cases hbad : steps < 0 ∨ 1048576 < steps
    · have HR : Hid (MRunR g s steps C o none 0 1) := .inr (.inl ⟨hl0, hbad, rfl, rfl, rfl⟩)
      have h4 : steps < 0 ∨ (¬ steps < 0 ∧ 1048576 < steps) := by omega
      clear hbad h hlk hl0 hC
      rcases h4 with h1 | ⟨h1, h2⟩
      all_goals
        go_enter Try.func28, Try.ntmps28
        go_wp2_with fail
        refine (HLK.out _ (by repeat (first | exact Below.refl _ _ | assumption | refine Below.drew ?_ | refine below_drewN ?_ _ | refine Below.alloc ?_ (by first | omega | (simp; omega) | simp) _ | refine Below.setCell ?_ (by first | omega | (simp; omega) | simp) _))).mono ?_
        rintro e w1 ⟨rfl, hb1⟩
        have hw1 : Below w.heap.size w w1 := (((Below.refl _ w).alloc (Nat.le_refl _) _).alloc (by simp) _).trans (hb1.mono (by simp; omega))
        have hox : Blk w1 (w.heap.size + 1) 41 #[.bool false, .int .i64 0] := (blk_at (by simp)).below hb1 (by simp)
        have yz0 : w1.cell? ⟨w.heap.size + 1, 0, none⟩ = some (.bool false) := hox.cell 0; have yz1 : w1.cell? ⟨w.heap.size + 1, 1, none⟩ = some (.int .i64 0) := hox.cell 1; have yf0 := hox.frozen 0; have yf1 := hox.frozen 1; have ye0 : (w1.setCell ⟨w.heap.size + 1, 0, none⟩ (.bool false)).cell? ⟨w.heap.size + 1, 0, none⟩ = some (.bool false) := (hox.set_ 0 _).cell 0; have ye1 : ((w1.setCell ⟨w.heap.size + 1, 0, none⟩ (.bool false)).setCell ⟨w.heap.size + 1, 1, none⟩ (.int .i64 0)).cell? ⟨w.heap.size + 1, 1, none⟩ = some (.int .i64 0) := ((hox.set_ 0 _).set_ 1 _).cell 1
        have hzw := hw1.size
        clear hb1
        go_wp2
        exact bodyPost_ret (v := .tuple #[.agg #[.bool false, .int .i64 0], .int .i64 0, .int .i64 1]) (by simp [results, Try.results28, go_sem, ye0, ye1]) rfl ⟨none, 0, 1, HR.out, rfl, (by repeat (first | exact Below.refl _ _ | assumption | refine Below.drew ?_ | refine below_drewN ?_ _ | refine Below.alloc ?_ (by first | omega | (simp; omega) | simp) _ | refine Below.setCell ?_ (by first | omega | (simp; omega) | simp) _))⟩
    · obtain ⟨L, hL⟩ := Int.eq_ofNat_of_zero_le (show 0 ≤ steps by omega)
      subst hL
      have hLm : L ≤ 1048576 := by omega
      have h1 : ¬ ((L : Int) < 0) := by omega
      have h2 : ¬ ((1048576 : Int) < (L : Int)) := by omega
      clear hbad
      obtain ⟨W0, h60⟩ := look_zero hl0
      obtain ⟨n, r, hr, hev, hcost⟩ := hC hl0
      have hpos := W0.right.pos
      have hm := h.cap
      unfold maxLen at hm
      obtain ⟨ad, nm, k', a', b', c', d', t', ks', A', cp', rfl, hab, hej, hnm, hE, hS⟩ := h.rule hpos
      rw [hr] at hej
      injection hej with hej
      have hlen : s.data.toList.length = s.size := size_list s
      have hrun : ∀ (R : Nat) (W : World) (hBR : w.heap.size ≤ R), Below w.heap.size w W → Rn ⟨w.heap.size, R, some ad, cp, s, g, row, hBR⟩ W L false → Calls Try.prog 55 #[.pointer (some ⟨R, 0, none⟩), .agg #[.int .i64 k', .int .u64 a', .int .u64 b', .int .u64 c', .int .u64 d', .string t', .slice A' ks'.length cp'], .int .i64 0] W (Gone ⟨w.heap.size, R, some ad, cp, s, g, row, hBR⟩ L C o W) := by
        intro R W hBR hW hR
        have F : RC.Fit ⟨w.heap.size, R, some ad, cp, s, g, row, hBR⟩ := ⟨W0.right, hwf, by show s.data.toList.length ≤ 1000; omega⟩
        have := runs F n r.2 0 o (exCells k' a' b' c' d' t' A' ks'.length cp') W L hev (by rw [hej]; exact hE.on hW) ⟨W0.right.rt r (List.mem_of_getElem? hr), hwf r (List.mem_of_getElem? hr)⟩ (by omega) hR (by unfold lots; omega)
        rw [hcost]
        exact this
      have hgr := fun W (hW : Below w.heap.size w W) => h.on hW
      rw [Nat.zero_mul] at hS
      have hS1 : Eight w ad nm k' a' b' c' d' t' A' ks'.length cp' := hS
      have hcc : ∀ W, Below w.heap.size w W → Eight W ad nm k' a' b' c' d' t' A' ks'.length cp' := fun W hW =>
        have hk := fun (q : Addr) (hq : q.block = ad.block) => hW.cell (p := q) (by rw [hq]; omega)
        ⟨(hk _ rfl).trans hS1.c0, (hk ⟨_, _, none⟩ rfl).trans hS1.c1, (hk ⟨_, _, none⟩ rfl).trans hS1.c2, (hk ⟨_, _, none⟩ rfl).trans hS1.c3, (hk ⟨_, _, none⟩ rfl).trans hS1.c4, (hk ⟨_, _, none⟩ rfl).trans hS1.c5, (hk ⟨_, _, none⟩ rfl).trans hS1.c6, (hk ⟨_, _, none⟩ rfl).trans hS1.c7⟩
      have HRUN := Lib.hid hrun
      have HGR := Lib.hid hgr
      have HCC := Lib.hid hcc
      have HL0 := Lib.hid hl0
      have hp1 : (0 : Int) < (g.length : Int) := by omega
      clear hrun hgr hcc hS hS1 hE hnm hej hev hcost hr hC h hlk hwf W0 hl0
      go_enter Try.func28, Try.ntmps28
      go_wp2_with fail
      refine (HLK.out _ (by repeat (first | exact Below.refl _ _ | assumption | refine Below.drew ?_ | refine below_drewN ?_ _ | refine Below.alloc ?_ (by first | omega | (simp; omega) | simp) _ | refine Below.setCell ?_ (by first | omega | (simp; omega) | simp) _))).mono ?_
      rintro e w1 ⟨rfl, hb1⟩
      have hw1 : Below w.heap.size w w1 := (((Below.refl _ w).alloc (Nat.le_refl _) _).alloc (by simp) _).trans (hb1.mono (by simp; omega))
      have hgx : Blk w1 w.heap.size 24 #[.slice (some ad) g.length cp] := ((blk_at rfl).alloc _).below hb1 (by simp; omega)
      have hox : Blk w1 (w.heap.size + 1) 41 #[.bool false, .int .i64 0] := (blk_at (by simp)).below hb1 (by simp)
      have g0 : w1.cell? ⟨w.heap.size, 0, none⟩ = some (.slice (some ad) g.length cp) := hgx.cell 0
      obtain ⟨y0, y1, y2, y3, y4, y5, y6, y7⟩ := HCC.out w1 hw1
      have y2' : w1.cell? ⟨ad.block, ad.off + 1 + 1, none⟩ = some (.int .u64 a') := y2
      have y3' : w1.cell? ⟨ad.block, ad.off + 1 + 2, none⟩ = some (.int .u64 b') := y3
      have y4' : w1.cell? ⟨ad.block, ad.off + 1 + 3, none⟩ = some (.int .u64 c') := y4
      have y5' : w1.cell? ⟨ad.block, ad.off + 1 + 4, none⟩ = some (.int .u64 d') := y5
      have y6' : w1.cell? ⟨ad.block, ad.off + 1 + 5, none⟩ = some (.string t') := y6
      have y7' : w1.cell? ⟨ad.block, ad.off + 1 + 6, none⟩ = some (.slice A' ks'.length cp') := y7
      have hzw := hw1.size
      have hxl := hox.lt
      have hgl := hgx.lt
      have had1 : ad.block < w1.heap.size := by omega
      have had2 : ad.block ≠ w1.heap.size := by omega
      clear hb1
      go_wp2_with fail
      refine (HRUN.out w1.heap.size _ (by omega) (by repeat (first | exact Below.refl _ _ | assumption | refine Below.drew ?_ | refine below_drewN ?_ _ | refine Below.alloc ?_ (by first | omega | (simp; omega) | simp) _ | refine Below.setCell ?_ (by first | omega | (simp; omega) | simp) _)) ⟨blk_at rfl, HGR.out _ (by repeat (first | exact Below.refl _ _ | assumption | refine Below.drew ?_ | refine below_drewN ?_ _ | refine Below.alloc ?_ (by first | omega | (simp; omega) | simp) _ | refine Below.setCell ?_ (by first | omega | (simp; omega) | simp) _))⟩).mono ?_
      rintro e w2 ⟨⟨z, rfl, hz⟩, q1, q2⟩
      have hox2 : Blk w2 (w.heap.size + 1) 41 #[.bool false, .int .i64 0] := q2.box (hox.alloc _) (by show w.heap.size + 1 ≠ w1.heap.size; omega)
      have s2 := q1.c2
      have s3 := q1.c3
      have hw2 : Below w.heap.size w w2 := (hw1.alloc hzw _).trans (q2.below (by simp; omega) (by show w.heap.size ≤ w1.heap.size; omega))
      have hzw2 := hw2.size
      have hxl2 := hox2.lt
      have hRl := q1.blk.lt
      clear y0 y1 y2 y3 y4 y5 y6 y7 y2' y3' y4' y5' y6' y7' g0
      by_cases hlc : L < C
      · rw [if_pos hlc] at hz ⊢
        rw [decide_eq_true hlc] at s3
        have HR : Hid (MRunR g s (L : Int) C o none 0 10) := .inr (.inr (.inl ⟨HL0.out, by omega, by omega, by omega, rfl, rfl, rfl⟩))
        have yz0 : w2.cell? ⟨w.heap.size + 1, 0, none⟩ = some (.bool false) := hox2.cell 0; have yz1 : w2.cell? ⟨w.heap.size + 1, 1, none⟩ = some (.int .i64 0) := hox2.cell 1; have yf0 := hox2.frozen 0; have yf1 := hox2.frozen 1; have ye0 : (w2.setCell ⟨w.heap.size + 1, 0, none⟩ (.bool false)).cell? ⟨w.heap.size + 1, 0, none⟩ = some (.bool false) := (hox2.set_ 0 _).cell 0; have ye1 : ((w2.setCell ⟨w.heap.size + 1, 0, none⟩ (.bool false)).setCell ⟨w.heap.size + 1, 1, none⟩ (.int .i64 0)).cell? ⟨w.heap.size + 1, 1, none⟩ = some (.int .i64 0) := ((hox2.set_ 0 _).set_ 1 _).cell 1
        go_wp2
        exact bodyPost_ret (v := .tuple #[.agg #[.bool false, .int .i64 0], .int .i64 0, .int .i64 10]) (by simp [results, Try.results28, go_sem, ye0, ye1]) rfl ⟨none, 0, 10, HR.out, rfl, (by repeat (first | exact Below.refl _ _ | assumption | refine Below.drew ?_ | refine below_drewN ?_ _ | refine Below.alloc ?_ (by first | omega | (simp; omega) | simp) _ | refine Below.setCell ?_ (by first | omega | (simp; omega) | simp) _))⟩
      · rw [if_neg hlc] at hz ⊢
        rw [decide_eq_false hlc] at s3
        have HR : Hid (MRunR g s (L : Int) C o o C 0) := .inr (.inr (.inr ⟨HL0.out, by omega, by omega, rfl, rfl, rfl⟩))
        have hsub : IntKind.i64.wrap ((L : Int) - ((L - C : Nat) : Int)) = (C : Int) := by rw [show (L : Int) - ((L - C : Nat) : Int) = (C : Int) by omega]; exact wrap_i64 _ (by omega) (by omega)
        generalize ((L - C : Nat) : Int) = LC at s2 hsub
        obtain ⟨b, n0, hb, hbn⟩ : ∃ (b : Bool) (n0 : Int), o.isSome = b ∧ outV o = .agg #[.bool b, .int .i64 n0] := by cases o <;> exact ⟨_, _, rfl, rfl⟩
        have hzn : (if b = false then 0 else z) = n0 := by
          cases o with
          | none => simp [outV] at hb hbn; subst hb; simp [hbn]
          | some q => simp [outV] at hb hbn; subst hb; simp [hz q rfl, hbn.symm]
        rw [hb]
        have HBN := Lib.hid hbn
        have HZN := Lib.hid hzn
        have hbb : (o.isSome = true) = (b = true) := by rw [hb]
        clear hb hbn hzn hz hbb HRUN HLK
        cases b with
        | false =>
          obtain rfl : 0 = n0 := HZN.out
          have yz0 : w2.cell? ⟨w.heap.size + 1, 0, none⟩ = some (.bool false) := hox2.cell 0; have yz1 : w2.cell? ⟨w.heap.size + 1, 1, none⟩ = some (.int .i64 0) := hox2.cell 1; have yf0 := hox2.frozen 0; have yf1 := hox2.frozen 1; have ye0 : (w2.setCell ⟨w.heap.size + 1, 0, none⟩ (.bool false)).cell? ⟨w.heap.size + 1, 0, none⟩ = some (.bool false) := (hox2.set_ 0 _).cell 0; have ye1 : ((w2.setCell ⟨w.heap.size + 1, 0, none⟩ (.bool false)).setCell ⟨w.heap.size + 1, 1, none⟩ (.int .i64 0)).cell? ⟨w.heap.size + 1, 1, none⟩ = some (.int .i64 0) := ((hox2.set_ 0 _).set_ 1 _).cell 1
          go_wp2_with fail
          go_region
          all_goals
            go_wp2
            exact bodyPost_ret (v := .tuple #[.agg #[.bool false, .int .i64 0], .int .i64 C, .int .i64 0]) (by simp [results, Try.results28, go_sem, ye0, ye1]) rfl ⟨o, C, 0, HR.out, by rw [HBN.out], (by repeat (first | exact Below.refl _ _ | assumption | refine Below.drew ?_ | refine below_drewN ?_ _ | refine Below.alloc ?_ (by first | omega | (simp; omega) | simp) _ | refine Below.setCell ?_ (by first | omega | (simp; omega) | simp) _))⟩
        | true =>
          obtain rfl : z = n0 := HZN.out
          have yz0 : w2.cell? ⟨w.heap.size + 1, 0, none⟩ = some (.bool false) := hox2.cell 0; have yz1 : w2.cell? ⟨w.heap.size + 1, 1, none⟩ = some (.int .i64 0) := hox2.cell 1; have yf0 := hox2.frozen 0; have yf1 := hox2.frozen 1; have ye0 : (w2.setCell ⟨w.heap.size + 1, 0, none⟩ (.bool true)).cell? ⟨w.heap.size + 1, 0, none⟩ = some (.bool true) := (hox2.set_ 0 _).cell 0; have ye1 : ((w2.setCell ⟨w.heap.size + 1, 0, none⟩ (.bool true)).setCell ⟨w.heap.size + 1, 1, none⟩ (.int .i64 z)).cell? ⟨w.heap.size + 1, 1, none⟩ = some (.int .i64 z) := ((hox2.set_ 0 _).set_ 1 _).cell 1
          go_wp2_with fail
          go_region
          all_goals
            go_wp2
            exact bodyPost_ret (v := .tuple #[.agg #[.bool true, .int .i64 z], .int .i64 C, .int .i64 0]) (by simp [results, Try.results28, go_sem, ye0, ye1]) rfl ⟨o, C, 0, HR.out, by rw [HBN.out], (by repeat (first | exact Below.refl _ _ | assumption | refine Below.drew ?_ | refine below_drewN ?_ _ | refine Below.alloc ?_ (by first | omega | (simp; omega) | simp) _ | refine Below.setCell ?_ (by first | omega | (simp; omega) | simp) _))⟩
  · have HR : Hid (MRunR g s steps C o none 0 (lookG g s)) := .inl ⟨hl0, rfl, rfl, rfl⟩
    have hxb : (lookG g s != 0) = true := by rw [bne_iff_ne]; exact hl0
    clear hl0 h hlk hC
    generalize lookG g s = x at hxb HLK HR
    go_enter Try.func28, Try.ntmps28
    go_wp2_with fail
    refine (HLK.out _ (by repeat (first | exact Below.refl _ _ | assumption | refine Below.drew ?_ | refine below_drewN ?_ _ | refine Below.alloc ?_ (by first | omega | (simp; omega) | simp) _ | refine Below.setCell ?_ (by first | omega | (simp; omega) | simp) _))).mono ?_
    rintro e w1 ⟨rfl, hb1⟩
    have hw1 : Below w.heap.size w w1 := (((Below.refl _ w).alloc (Nat.le_refl _) _).alloc (by simp) _).trans (hb1.mono (by simp; omega))
    have hox : Blk w1 (w.heap.size + 1) 41 #[.bool false, .int .i64 0] := (blk_at (by simp)).below hb1 (by simp)
    have yz0 : w1.cell? ⟨w.heap.size + 1, 0, none⟩ = some (.bool false) := hox.cell 0; have yz1 : w1.cell? ⟨w.heap.size + 1, 1, none⟩ = some (.int .i64 0) := hox.cell 1; have yf0 := hox.frozen 0; have yf1 := hox.frozen 1; have ye0 : (w1.setCell ⟨w.heap.size + 1, 0, none⟩ (.bool false)).cell? ⟨w.heap.size + 1, 0, none⟩ = some (.bool false) := (hox.set_ 0 _).cell 0; have ye1 : ((w1.setCell ⟨w.heap.size + 1, 0, none⟩ (.bool false)).setCell ⟨w.heap.size + 1, 1, none⟩ (.int .i64 0)).cell? ⟨w.heap.size + 1, 1, none⟩ = some (.int .i64 0) := ((hox.set_ 0 _).set_ 1 _).cell 1
    have hzw := hw1.size
    clear hb1
    go_wp2
    exact bodyPost_ret (v := .tuple #[.agg #[.bool false, .int .i64 0], .int .i64 0, .int .i64 x]) (by simp [results, Try.results28, go_sem, ye0, ye1]) rfl ⟨none, 0, x, HR.out, rfl, (by repeat (first | exact Below.refl _ _ | assumption | refine Below.drew ?_ | refine below_drewN ?_ _ | refine Below.alloc ?_ (by first | omega | (simp; omega) | simp) _ | refine Below.setCell ?_ (by first | omega | (simp; omega) | simp) _))⟩
end Go.Proofs.Ytkmcnekjimobhaa
namespace Go.Proofs.Ytkmcnekjimobhaa
open Go.RowKit

theorem wf_litC (t : ByteArray) : WfE (litE t) := .mk _ _ _ _ _ _ _ (by unfold I64; omega) (by unfold U64; omega) (by unfold U64; omega) (by unfold U64; omega) (by unfold U64; omega) (fun e h => by cases h)
def oneX : List Rl := [(nameA, litE ⟨#[120]⟩)]
theorem wf_oneX : ∀ r ∈ oneX, WfE r.2 := fun r hr => by
  unfold oneX at hr
  simp only [List.mem_singleton] at hr
  subst hr
  exact wf_litC _
theorem onex_mak : makR oneX = 0 := by decide +kernel
theorem onex_chk : checkM (codeG oneX) = 0 := by decide +kernel
theorem reads_insts {W : World} {b B : Nat} {T : TypeId} {cs : Array Value} {l : List In} (hb : Blk W b T cs) (hcs : cs.toList = inCells l) (hB : b < B) : Reads W B 6 (some ⟨b, 0, none⟩) l.length (inCells l) :=
  ⟨inCells_len l, fun _ => ⟨_, rfl, hB, fun j u hu => by rw [cellC, hb.cell, ← Array.getElem?_toList, hcs]; exact hu⟩⟩
def twoI : List In := [litI 120, iN 8 0]
theorem two_run : codeM twoI [120, 120] 2 = (true, 1, 0) := by decide +kernel
theorem litI_words (c : UInt8) : Words (litI c).set := fun i => by
  have h : (litI c).set = rangeL c.toNat 1 := by
    obtain ⟨x0, x1, x2, x3, he⟩ := four_of (rangeL_len c.toNat 1)
    unfold litI In.set
    rw [he]
    rfl
  rw [h]
  exact rangeL_lt c.toNat 1 i
theorem words0 : Words [0, 0, 0, 0] := fun i => by
  match i with
  | 0 => simp
  | 1 => simp
  | 2 => simp
  | 3 => simp
  | i + 4 => simp
/-- all words of what is written are words -/
def WordsAll (xs : List In) : Prop := ∀ x ∈ xs, Words x.set
section
variable {g : List Rl} {ad : Nat → Nat}
theorem WordsAll.nil : WordsAll [] := fun x h => by cases h
theorem WordsAll.cons {x : In} {xs : List In} (h : Words x.set) (h' : WordsAll xs) : WordsAll (x :: xs) := fun y hy => by
  rcases List.mem_cons.1 hy with rfl | hy
  · exact h
  · exact h' y hy
theorem WordsAll.app {xs ys : List In} (h : WordsAll xs) (h' : WordsAll ys) : WordsAll (xs ++ ys) := fun y hy => (List.mem_append.1 hy).elim (h y) (h' y)
theorem WordsAll.iN {op m : Int} {xs : List In} (h' : WordsAll xs) : WordsAll (iN op m :: xs) := WordsAll.cons words0 h'
theorem wrd_S : ∀ (ks : List Ex) (p : Nat), (∀ e ∈ ks, ∀ p, WordsAll (cE g ad e p)) → WordsAll (cS g ad ks p)
  | [], _, _ => WordsAll.nil
  | e :: es, p, h => by
    rw [cS]
    exact (h e (by simp) p).app (wrd_S es _ fun x hx => h x (by simp [hx]))
theorem wrd_A (fin : Nat) : ∀ (ks : List Ex) (p : Nat), (∀ e ∈ ks, ∀ p, WordsAll (cE g ad e p)) → WordsAll (cA g ad ks p fin)
  | [], _, _ => WordsAll.nil
  | e :: es, p, h => by
    rw [cA]
    split
    · exact h e (by simp) p
    · exact ((h e (by simp) _).app ((wrd_A fin es _ fun x hx => h x (by simp [hx])).iN)).iN
theorem wrd_star {xs : List In} {p : Nat} (h : WordsAll xs) : WordsAll (starI xs p) := (h.app WordsAll.nil.iN).iN
theorem wrd_E (e : Ex) : WfE e → ∀ p, WordsAll (cE g ad e p) := by
  refine Ex.ind (P := fun e => WfE e → ∀ p, WordsAll (cE g ad e p)) ?_ e
  intro k a b c d t ks ih hw p
  cases hw with
  | mk _ _ _ _ _ _ _ hk64 wa wb wc wd wks =>
  have hks : ∀ e ∈ ks, ∀ p, WordsAll (cE g ad e p) := fun e he => ih e he (wks e he)
  rw [cE]
  by_cases h2 : k = 2
  · rw [if_pos h2]
    refine WordsAll.cons (fun i => ?_) WordsAll.nil
    show ([a.toNat, b.toNat, c.toNat, d.toNat] : List Nat).getD i 0 < _
    obtain ⟨a1, a2⟩ := wa
    obtain ⟨b1, b2⟩ := wb
    obtain ⟨c1, c2⟩ := wc
    obtain ⟨d1, d2⟩ := wd
    match i with
    | 0 => simp; omega
    | 1 => simp; omega
    | 2 => simp; omega
    | 3 => simp; omega
    | i + 4 => simp
  rw [if_neg h2]
  by_cases h3 : k = 3
  · rw [if_pos h3]
    intro x hx
    obtain ⟨u, _, rfl⟩ := List.mem_map.1 hx
    exact litI_words u
  rw [if_neg h3]
  by_cases h4 : k = 4
  · rw [if_pos h4]; exact WordsAll.nil.iN
  rw [if_neg h4]
  by_cases h5 : k = 5
  · rw [if_pos h5]; exact wrd_S ks p hks
  rw [if_neg h5]
  by_cases h6 : k = 6
  · rw [if_pos h6]; exact wrd_A _ ks p hks
  rw [if_neg h6]
  cases ks with
  | nil => rw [cK]; exact WordsAll.nil
  | cons e es =>
    have he := hks e (by simp)
    rw [cK]
    split
    · exact wrd_star (he _)
    split
    · exact (he _).app (wrd_star (he _))
    split
    · exact ((he _).app WordsAll.nil.iN).iN
    split
    · exact ((he _).app WordsAll.nil.iN.iN).iN
    split
    · exact ((he _).app WordsAll.nil.iN).iN
    · exact WordsAll.nil
theorem wrd_R : ∀ (rs : List Rl) (p : Nat), (∀ r ∈ rs, WfE r.2) → WordsAll (cR g ad rs p)
  | [], _, _ => WordsAll.nil
  | r :: rs, p, h => by
    rw [cR]
    exact (wrd_E r.2 (h r (by simp)) p).app (wrd_R rs _ fun x hx => h x (by simp [hx])).iN
end
theorem codeG_words {g : List Rl} (h : ∀ r ∈ g, WfE r.2) : ∀ x ∈ codeG g, Words x.set := (wrd_R g 2 h).iN.iN
/-- what code.Run answers of what was made -/
theorem code_says {g : List Rl} (hm : makR g = 0) {s : List UInt8} (h60 : s.length ≤ 60) {r : Rl} (hr : g[0]? = some r) {n : Nat} {o : Option Nat} (h : evJ g s n (.ex r.2) 0 = some o) {C : Nat} (hC : C = cost g s n (.ex r.2) 0) (h20 : C ≤ 1048575) : codeM (codeG g) s (16 * (C : Int) + 16) = outN o := by
  obtain ⟨W, _, hl⟩ := makR_zero hm
  obtain ⟨k, hk, hf⟩ := code_runs W h60 hr h
  unfold codeM
  rw [codeG_ok W.right.pos W.right.rt hl, if_neg (by simp), if_neg (by omega), if_neg (by omega)]
  have e1 : (16 * (C : Int) + 16).toNat = k + 1 + (16 * C + 16 - (k + 1)) := by omega
  rw [e1]
  exact hf _
theorem outCR_N (o : Option Nat) : outCR (outN o) = .tuple #[outV o, .int .i64 0] := by cases o <;> rfl
theorem look_of {g : List Rl} (h : makR g = 0) {s : ByteArray} (h60 : s.size ≤ 60) : lookG g s = 0 := by
  unfold makR at h
  unfold lookG
  by_cases h1 : (wellG g).2 ≠ 0
  · rw [if_pos h1] at h; exact absurd h h1
  · rw [if_neg h1, if_neg (by omega)]

set_option maxRecDepth 100000 in
set_option maxHeartbeats 8000000 in
theorem walk_CodeMeans {g : List Rl} {A : Option Addr} {cp : Nat} {row : Nat → List Value} (s : ByteArray) (w : World) (hs : s.size ≤ 140737488351232) (h : GrIs w w.heap.size g A cp row) (hwf : ∀ r ∈ g, WfE r.2) :
    Calls Try.prog 5 #[.agg #[.slice A g.length cp], .string s] w fun e w' => e = .returned (.bool true) ∧ Below w.heap.size w w' := by
  have hso := run_same_out
  have hlit := lit_b ⟨#[120]⟩
  have hone := fun (W : World) => one_b (litE ⟨#[120]⟩) _ W (litE_is W _ (by decide))
  unfold exCells at hlit hone
  obtain ⟨C, o, hC⟩ := costs g s
  have HMK := Lib.hid (fun W (hW : Below w.heap.size w W) => make_any (h.grow hW) hwf)
  have HMR := Lib.hid (fun W (hW : Below w.heap.size w W) => mrun_any (h.grow hW) hwf s 1048575 hC)
  have HL := Lib.hid hlit
  have HO := Lib.hid hone
  have HC := Lib.hid hC
  have HWD := Lib.hid (codeG_words hwf)
  clear hlit hone h hwf hC
  go_enter Try.func5, Try.ntmps5
  go_wp2_with fail
  refine (HL.out _).mono ?_
  rintro e w1 ⟨rfl, hb1⟩
  have hgx : Blk w1 w.heap.size 24 #[.slice A g.length cp] := (blk_at rfl).below hb1 (by simp)
  have hw1 : Below w.heap.size w w1 := ((Below.refl _ w).alloc (Nat.le_refl _) _).trans (hb1.mono (by simp))
  clear hb1
  go_wp2_with fail
  refine (HO.out _).mono ?_
  rintro e w2 ⟨b, rfl, hG1, hb2⟩
  have hgx2 := hgx.below hb2 hgx.lt
  have hw2 := hw1.trans (hb2.mono hw1.size)
  clear hb2 hgx hw1
  go_wp2_with fail
  refine (make_any (g := oneX) hG1 wf_oneX).mono ?_
  rintro e w3 ⟨hb3, hq⟩
  rcases hq with ⟨hne, _⟩ | ⟨_, V3, c3, rfl, ho3⟩
  · exact absurd onex_mak hne
  have hgx3 := hgx2.below hb3 hgx2.lt
  have hw3 := hw2.trans (hb3.mono hw2.size)
  have hck3 := fun W (hW : Below w3.heap.size w3 W) => checkM_any V3 (codeG oneX).length c3 (codeG oneX) W.heap.size W (((Reads.of_own ho3).below hW).more hW.size) (Nat.le_refl _) (by rw [show (codeG oneX).length = 4 from rfl]; unfold maxLen; omega)
  rw [onex_chk] at hck3
  have HCK3 := Lib.hid hck3
  generalize (codeG oneX).length = l3 at HCK3 ⊢
  clear hb3 hgx2 hw2 hG1 ho3 hck3
  go_wp2_with fail
  refine (HCK3.out _ (Below.refl _ _)).mono ?_
  rintro e w4 ⟨rfl, hb4⟩
  have hgx4 := hgx3.below hb4 hgx3.lt
  have hw4 := hw3.trans (hb4.mono hw3.size)
  have hz4 := hw4.size
  have hrg := fun W => range_any 120 120 W (by unfold I64; omega) (by unfold I64; omega) 120 1 (by omega) (by omega)
  have hwl := words_lit 120
  rw [show (120 : UInt8).toNat = 120 from rfl] at hwl
  rw [hwl] at hrg
  have HRG := Lib.hid hrg
  clear hb4 hgx3 hw3 hrg hwl HCK3
  go_wp2_with fail
  refine (HRG.out _).mono ?_
  rintro e w5 ⟨rfl, hb5⟩
  have hgx5 := hgx4.below hb5 hgx4.lt
  have hw5 := hw4.trans (hb5.mono hw4.size)
  have hz5 := hw5.size
  clear hb5 hgx4 hw4 HRG
  have hbk : Blk (w5.alloc (.cells #[.int .i64 1, .int .i64 0, .int .u64 ((litI 120).a : Int), .int .u64 ((litI 120).b : Int), .int .u64 ((litI 120).c : Int), .int .u64 ((litI 120).d : Int), .int .i64 8, .int .i64 0, .int .u64 0, .int .u64 0, .int .u64 0, .int .u64 0] 62)) w5.heap.size 62 #[.int .i64 1, .int .i64 0, .int .u64 ((litI 120).a : Int), .int .u64 ((litI 120).b : Int), .int .u64 ((litI 120).c : Int), .int .u64 ((litI 120).d : Int), .int .i64 8, .int .i64 0, .int .u64 0, .int .u64 0, .int .u64 0, .int .u64 0] := blk_at rfl
  have hcr := crun_any (some ⟨w5.heap.size, 0, none⟩) 2 2 twoI _ _ (reads_insts (l := twoI) hbk rfl hbk.lt) (Nat.le_refl _) (by unfold maxLen; omega) (fun x hx => by
    unfold twoI at hx
    rcases List.mem_cons.1 hx with rfl | hx
    · exact litI_words 120
    · rw [List.mem_singleton.1 hx]; exact words0) ⟨#[120, 120]⟩ 2 (by show I64 2; unfold I64; omega) (by unfold I64; omega)
  rw [show (ByteArray.mk #[120, 120]).data.toList = [120, 120] from rfl, two_run] at hcr
  have HCR := Lib.hid hcr
  have hgx6 := hgx5.alloc (.cells #[.int .i64 1, .int .i64 0, .int .u64 ((litI 120).a : Int), .int .u64 ((litI 120).b : Int), .int .u64 ((litI 120).c : Int), .int .u64 ((litI 120).d : Int), .int .i64 8, .int .i64 0, .int .u64 0, .int .u64 0, .int .u64 0, .int .u64 0] 62)
  have hw6 : Below w.heap.size w (w5.alloc (.cells #[.int .i64 1, .int .i64 0, .int .u64 ((litI 120).a : Int), .int .u64 ((litI 120).b : Int), .int .u64 ((litI 120).c : Int), .int .u64 ((litI 120).d : Int), .int .i64 8, .int .i64 0, .int .u64 0, .int .u64 0, .int .u64 0, .int .u64 0] 62)) := hw5.alloc hz5 _
  clear hcr hbk hgx5 hw5
  go_wp2_with fail
  refine (HCR.out).mono ?_
  rintro e w7 ⟨rfl, hb7⟩
  have hgx7 := hgx6.below hb7 hgx6.lt
  have hw7 := hw6.trans (hb7.mono hw6.size)
  have hz7 := hw7.size
  have hor : outCR (true, 1, 0) = .tuple #[.agg #[.bool true, .int .i64 1], .int .i64 0] := rfl
  rw [hor]
  have g7 : w7.cell? ⟨w.heap.size, 0, none⟩ = some (.slice A g.length cp) := hgx7.cell 0
  have hgl7 := hgx7.lt
  clear hor hb7 hgx6 hw6 HCR
  have hw8 : Below w.heap.size w (w7.alloc (.cells #[.bool true, .int .i64 1] 41)) := hw7.alloc hz7 _
  have hgx8 := hgx7.alloc (.cells #[.bool true, .int .i64 1] 41)
  go_wp2_with fail
  refine (HMK.out _ hw8).mono ?_
  rintro e w9 ⟨hb9, hq⟩
  have hgx9 := hgx8.below hb9 hgx8.lt
  have hw9 := hw8.trans (hb9.mono hw8.size)
  have hz9 := hw9.size
  rcases hq with ⟨hne, rfl⟩ | ⟨hmz, V9, c9, rfl, ho9⟩
  · have hx0 : (makR g != 0) = true := by rw [bne_iff_ne]; exact hne
    generalize makR g = y at hx0
    clear hb9 hgx8 hw8 hgx9 hgx7 hw7 g7 hne
    go_wp2
    go_ret
    exact ⟨rfl, hw9⟩
  · obtain ⟨Wg, hkz, hlr⟩ := makR_zero hmz
    have hck := codeG_ok Wg.right.pos Wg.right.rt hlr
    have hln : (codeG g).length ≤ 6000 := by rw [codeG_len]; exact hlr
    have hck9 := fun W (hW : Below w9.heap.size w9 W) => checkM_any V9 (codeG g).length c9 (codeG g) W.heap.size W (((Reads.of_own ho9).below hW).more hW.size) (Nat.le_refl _) (by unfold maxLen; omega)
    rw [hck] at hck9
    have hrun9 := fun W (hW : Below w9.heap.size w9 W) (steps : Int) (hst : I64 steps) => crun_any V9 (codeG g).length c9 (codeG g) W.heap.size W (((Reads.of_own ho9).below hW).more hW.size) (Nat.le_refl _) (by unfold maxLen; omega) HWD.out s steps (by unfold I64; omega) hst
    have HCK := Lib.hid hck9
    have HRUN := Lib.hid hrun9
    have HMZ := Lib.hid hmz
    have g9 : w9.cell? ⟨w.heap.size, 0, none⟩ = some (.slice A g.length cp) := hgx9.cell 0
    have hgl9 := hgx9.lt
    generalize hcl : (codeG g).length = cl at HCK HRUN ⊢
    clear hb9 hgx8 hw8 hgx7 hw7 g7 ho9 hck9 hrun9 hck hln hlr hkz hmz hcl
    go_wp2_with fail
    refine (HCK.out _ (Below.refl _ _)).mono ?_
    rintro e w10 ⟨rfl, hb10⟩
    have hgx10 := hgx9.below hb10 hgx9.lt
    have hw10 := hw9.trans (hb10.mono hw9.size)
    have hz10 := hw10.size
    have hz910 := hb10.size
    by_cases hbig : 60 < s.size
    · have hsb : (60 : Int) < (s.size : Int) := by omega
      have hb10' := hb10
      clear hgx9 hw9 g9 hb10
      go_wp2_with fail
      refine (HCK.out _ hb10').mono ?_
      rintro e w11 ⟨rfl, hb11⟩
      have hw11 := hw10.trans (hb11.mono hw10.size)
      clear hb11 hb10'
      go_wp2
      go_ret
      exact ⟨rfl, hw11⟩
    · have hsb : ¬ (60 : Int) < (s.size : Int) := by omega
      have h60 : s.size ≤ 60 := by omega
      have hl0 := look_of HMZ.out h60
      have g10 : w10.cell? ⟨w.heap.size, 0, none⟩ = some (.slice A g.length cp) := hgx10.cell 0
      have hgl10 := hgx10.lt
      have HB10 := Lib.hid hb10
      clear hgx9 hw9 g9 hb10
      go_wp2_with fail
      refine (HMR.out _ hw10).mono ?_
      rintro e w11 ⟨v, nn, x, hv, rfl, hb11⟩
      have hw11 := hw10.trans (hb11.mono hw10.size)
      have hz11 := hw11.size
      have hz1011 := hb11.size
      have HB11 : Hid (Below w9.heap.size w9 w11) := HB10.out.trans (hb11.mono HB10.out.size)
      rw [outV_eq]
      rcases hv with ⟨h1, _⟩ | ⟨_, h1, _⟩ | ⟨_, _, _, _, h1, h2, h3⟩ | ⟨_, h1, h2, h3, h4, h5⟩
      · exact absurd hl0 h1
      · omega
      · subst h1 h2 h3
        clear hb11 hgx10 hw10 g10
        go_wp2
        go_ret
        exact ⟨rfl, (by repeat (first | exact Below.refl _ _ | assumption | refine Below.drew ?_ | refine below_drewN ?_ _ | refine Below.alloc ?_ (by first | omega | (simp; omega) | simp) _ | refine Below.setCell ?_ (by first | omega | (simp; omega) | simp) _))⟩
      · subst h3 h4 h5
        obtain ⟨n, r, hr, hev, hcost⟩ := HC.out hl0
        have hsl : s.data.toList.length = s.size := size_list s
        have hsay := code_says HMZ.out (s := s.data.toList) (by omega) hr hev hcost (by omega)
        have hrun := HRUN.out (w11.alloc (.cells #[.bool v.isSome, .int .i64 (v.getD 0 : Nat)] 41)) (HB11.out.alloc HB11.out.size _) (16 * (C : Int) + 16) (by unfold I64; omega)
        rw [hsay, outCR_N, outV_eq] at hrun
        have hox : Blk (w11.alloc (.cells #[.bool v.isSome, .int .i64 (v.getD 0 : Nat)] 41)) w11.heap.size 41 #[.bool v.isSome, .int .i64 (v.getD 0 : Nat)] := blk_at rfl
        have hw12 : Below w.heap.size w (w11.alloc (.cells #[.bool v.isSome, .int .i64 (v.getD 0 : Nat)] 41)) := hw11.alloc hz11 _
        have HRN := Lib.hid hrun
        have hC20 : C ≤ 1048575 := by omega
        generalize v.isSome = vb at HRN hox hw12 ⊢
        generalize ((v.getD 0 : Nat) : Int) = vn at HRN hox hw12 ⊢
        have hwm : IntKind.i64.wrap (16 * (C : Int)) = 16 * (C : Int) := IntWalk.i64_in _ (by omega)
        have hwm2 : IntKind.i64.wrap (16 * (C : Int) + 16) = 16 * (C : Int) + 16 := IntWalk.i64_in _ (by omega)
        clear hrun hsay hb11 hgx10 hw10 g10 hev hr hcost hl0 HMR HMK
        go_wp2_with fail
        refine (HRN.out).mono ?_
        rintro e w13 ⟨rfl, hb13⟩
        have hx13 := hox.below hb13 hox.lt
        have hw13 := hw12.trans (hb13.mono hw12.size)
        have hz13 := hw13.size
        have hxl := hx13.lt
        have o0 : w13.cell? ⟨w11.heap.size, 0, none⟩ = some (.bool vb) := hx13.cell 0
        have o1 : w13.cell? ⟨w11.heap.size, 1, none⟩ = some (.int .i64 vn) := hx13.cell 1
        clear hb13 hox hw12 hx13
        go_wp2
        go_ret
        exact ⟨by simp, (by repeat (first | exact Below.refl _ _ | assumption | refine Below.drew ?_ | refine below_drewN ?_ _ | refine Below.alloc ?_ (by first | omega | (simp; omega) | simp) _ | refine Below.setCell ?_ (by first | omega | (simp; omega) | simp) _))⟩
end Go.Proofs.Ytkmcnekjimobhaa
namespace Go.Proofs.Ytkmcnekjimobhaa
open Go.RowKit

theorem wrap_i64w (n : Int) (h1 : -9223372036854775808 ≤ n) (h2 : n ≤ 9223372036854775807) : IntKind.i64.wrap n = n := by
  unfold IntKind.wrap IntKind.signed IntKind.bits
  simp
  omega
/-- what Within answers -/
def wiN (k : Int) (n : Nat) : Nat := ((k % 18446744073709551616) % n).toNat
theorem wiN_lt (k : Int) {n : Nat} (h : 0 < n) : wiN k n < n := by
  unfold wiN
  have := Int.emod_lt_of_pos (k % 18446744073709551616) (show (0 : Int) < n by omega)
  omega
set_option maxRecDepth 100000 in
theorem within_any (k : Int) (n : Nat) (h1 : 0 < n) (h2 : n < 9223372036854775807) (w : World) : Calls Try.prog 31 #[.int .i64 k, .int .i64 n] w fun e w' => e = .returned (.int .i64 (wiN k n)) ∧ Below w.heap.size w w' := by
  have hlt := wiN_lt k h1
  have hw1 : IntKind.u64.wrap k = k % 18446744073709551616 := by rw [IntKind.wrap_u64]
  have hw2 : IntKind.u64.wrap (n : Int) = (n : Int) := by rw [IntKind.wrap_u64]; omega
  have hk0 : 0 ≤ k % 18446744073709551616 := Int.emod_nonneg _ (by omega)
  have hr : (k % 18446744073709551616).tmod (n : Int) = (wiN k n : Int) := by
    rw [Int.tmod_eq_emod_of_nonneg hk0]
    unfold wiN
    have := Int.emod_nonneg (k % 18446744073709551616) (show (n : Int) ≠ 0 by omega)
    omega
  generalize wiN k n = j at hlt hr ⊢
  generalize k % 18446744073709551616 = y at hw1 hk0 hr
  have hn0 : ((n : Int) == 0) = false := by rw [beq_eq_false_iff_ne]; omega
  have hn1 : ¬ ((n : Int) = 0) := by omega
  have hw3 : IntKind.i64.wrap (j : Int) = (j : Int) := wrap_i64w _ (by omega) (by omega)
  have hw4 : IntKind.u64.wrap (j : Int) = (j : Int) := by rw [IntKind.wrap_u64]; omega
  go_enter Try.func31, Try.ntmps31
  go_wp2
  go_ret
  exact ⟨by simp_all, (by repeat (first | exact Below.refl _ _ | assumption | refine Below.drew ?_ | refine below_drewN ?_ _ | refine Below.alloc ?_ (by first | omega | (simp; omega) | simp) _ | refine Below.setCell ?_ (by first | omega | (simp; omega) | simp) _))⟩
end Go.Proofs.Ytkmcnekjimobhaa
