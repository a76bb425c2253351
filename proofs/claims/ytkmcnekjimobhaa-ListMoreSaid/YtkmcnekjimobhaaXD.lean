/- pack.Run: what it answers. -/
import Derived.Test.YtkmcnekjimobhaaPkA
import Derived.Test.YtkmcnekjimobhaaGF
import Derived.BigQuiet
import Derived.Deep.QuietTactic
namespace Go.Proofs.Ytkmcnekjimobhaa
open Go.RowKit Go.Maps

theorem ownsRow_low {w : World} {base base' n size : Nat} {e : TypeId} {v : Value} {xs : List Value} (h : w.ownsRow base e size v n xs) (hb : base' ≤ base) : w.ownsRow base' e size v n xs := by
  refine ⟨h.1, ?_⟩
  rcases h.2 with h0 | ⟨g, cap, cur, h1, h2, h3⟩
  · exact .inl h0
  · exact .inr ⟨g, cap, cur, h1, by omega, h3⟩
theorem pk_last {g : List Rl} {s : List UInt8} {m i p : Nat} {o : Option Nat} {σ1 : PS} (h : pk g s false m (.rule i) p ps0 = some (o, σ1)) : ∃ l', σ1.log = l' ++ [(i, p, o.map (· - p))] := by
  cases m with
  | zero => cases h
  | succ m =>
    simp only [pk] at h
    have h0 : recall ps0.seen (i, p) = none := rfl
    rw [h0] at h
    simp only at h
    split at h
    · cases h
    · split at h
      · cases h
      · split at h
        · cases h
        · simp only [Option.some.injEq, Prod.mk.injEq] at h
          obtain ⟨rfl, rfl⟩ := h
          exact ⟨_, rfl⟩
/-- what Run answers -/
def RunQ (g : List Rl) (s : ByteArray) (w : World) (e : Ending) (w' : World) : Prop := Below w.heap.size w w' ∧
  ((lookG g s ≠ 0 ∧ e = .returned (.tuple #[outV none, .slice none 0 0, .int .i64 (lookG g s)])) ∨
   (lookG g s = 0 ∧ ∃ (o : Option Nat) (σ1 : PS) (V : Option Addr) (cp : Nat) (l' : List (Nat × Nat × Option Nat)), (∃ m, pk g s.data.toList false m (.rule 0) 0 ps0 = some (o, σ1)) ∧ Agree g s.data.toList σ1 ∧ Tight g s.size σ1 ∧ σ1.log = l' ++ [(0, 0, o)] ∧
     e = .returned (.tuple #[outV o, .slice V σ1.log.length cp, .int .i64 0]) ∧ w'.ownsRow w.heap.size 159 4 (.slice V σ1.log.length cp) σ1.log.length (σ1.log.flatMap stepC)))

set_option maxRecDepth 100000 in
set_option maxHeartbeats 8000000 in
theorem run_any {g : List Rl} {A : Option Addr} {cp : Nat} {row : Nat → List Value} {w : World} (h : GrIs w w.heap.size g A cp row) (hwf : ∀ r ∈ g, WfE r.2) (s : ByteArray) :
    Calls Try.prog 15 #[.agg #[.slice A g.length cp], .string s] w (RunQ g s w) := by
  have hlk := fun W (hW : Below w.heap.size w W) => mlook_any ((h.on hW).more hW.size) s
  have HLK := Lib.hid hlk
  have HG := Lib.hid h
  have HWF := Lib.hid hwf
  clear hlk h hwf
  by_cases hl0 : lookG g s = 0
  · obtain ⟨W, h60⟩ := look_zero hl0
    rw [hl0] at HLK
    have HL0 := Lib.hid hl0
    have HW := Lib.hid W
    have h10 := W.right.ten
    have hpos := W.right.pos
    clear hl0 W
    obtain ⟨r, hr⟩ : ∃ r, g[0]? = some r := ⟨_, List.getElem?_eq_getElem hpos⟩
    have hsl : s.data.toList.length = s.size := size_list s
    obtain ⟨o, m, σ1, hsem, hpk, hag⟩ := rule_goes HW.out s.data.toList hr (p := 0) (by omega)
    have hnew := fun W (hW : Below w.heap.size w W) => new_any ((HG.out.on hW).more hW.size) hpos h10 (sixty_of HW.out.right) s
    have HN := Lib.hid hnew
    have HPK := Lib.hid hpk
    have HAG := Lib.hid hag
    clear hnew hpk hsem hr hag
    go_enter Try.func15, Try.ntmps15
    go_wp2_with fail
    refine (HLK.out _ (by repeat (first | exact Below.refl _ _ | assumption | refine Below.drew ?_ | refine below_drewN ?_ _ | refine Below.alloc ?_ (by first | omega | (simp; omega) | simp) _ | refine Below.setCell ?_ (by first | omega | (simp; omega) | simp) _))).mono ?_
    rintro e w1 ⟨rfl, hb1⟩
    have hw1 : Below w.heap.size w w1 := (((Below.refl _ w).alloc (Nat.le_refl _) _).alloc (by simp) _).trans (hb1.mono (by simp; omega))
    have hgx : Blk w1 w.heap.size 24 #[.slice A g.length cp] := ((blk_at rfl).alloc _).below hb1 (by simp; omega)
    have hox : Blk w1 (w.heap.size + 1) 41 #[.bool false, .int .i64 0] := (blk_at (by simp)).below hb1 (by simp)
    have g0 : w1.cell? ⟨w.heap.size, 0, none⟩ = some (.slice A g.length cp) := hgx.cell 0
    clear hb1
    go_wp2_with fail
    refine (HN.out _ hw1).mono ?_
    rintro e w2 ⟨c, hcg, hcs, hch, ⟨hhk, hlm, -⟩, rfl, hok, hpar, hb2, hcB⟩
    have hw2 : Below w.heap.size w w2 := hw1.trans (hb2.mono hw1.size)
    have hox2 := hox.below hb2 hox.lt
    have F : c.Fit := PC.fit (by rw [hcg]; exact HW.out) (by rw [hcs]; exact h60) hok hhk hlm hch (by rw [hcg]; exact HWF.out)
    have hru := (does F m).2.2 0 0 ps0 (o, σ1) w2 (by rw [hcg, hcs, hhk]; exact HPK.out) (by rw [hcg]; exact hpos) (by omega) (bound0 _) hpar
    have HRU := Lib.hid hru
    have hzw := hw1.size
    have hxl := hox.lt
    have hBP := hok.BP
    have hBM := hok.BM
    have hBb := hok.Bb
    have hPs := hpar.size
    have hPb := hok.P
    clear hru hb2
    go_wp2_with fail
    refine HRU.out.mono ?_
    rintro e w3 ⟨⟨v, rfl, hv⟩, q1, q2⟩
    obtain ⟨b, n, hbn⟩ : ∃ (b : Bool) (n : Int), outV v = .agg #[.bool b, .int .i64 n] := by cases v <;> exact ⟨_, _, rfl⟩
    have hvo : v = o := by
      simp only at hv
      rw [hv]
      cases v with
      | none => rfl
      | some k => simp
    subst hvo
    obtain ⟨lv, hP, hrow⟩ := q1.par
    have hti := q1.tight
    obtain ⟨V, lc, rfl⟩ := own_form hrow
    obtain ⟨l', hl'⟩ := pk_last HPK.out
    rw [show v.map (· - 0) = v by cases v <;> rfl] at hl'
    rw [hcg, hcs, hsl] at hti
    have hox3 : Blk w3 (w.heap.size + 1) 41 #[.bool false, .int .i64 0] := q2.box hox2 (by decide) (by omega) (by omega)
    have hw3 : Below w.heap.size w w3 := hw2.trans (q2.below (by have := hw2.size; omega) (by omega) (by omega) (by omega))
    have hrow3 : (((w3.setCell ⟨w.heap.size + 1, 0, none⟩ (.bool b)).setCell ⟨w.heap.size + 1, 1, none⟩ (.int .i64 n)).alloc (.cells #[.bool b, .int .i64 n] 41)).drew.ownsRow w.heap.size 159 4 (.slice V σ1.log.length lc) σ1.log.length (σ1.log.flatMap stepC) := by
      have hne : ∀ (W : World), World.ownsRow W c.base 159 4 (.slice V σ1.log.length lc) σ1.log.length (σ1.log.flatMap stepC) → ∀ i u, World.ownsRow (W.setCell ⟨w.heap.size + 1, i, none⟩ u) c.base 159 4 (.slice V σ1.log.length lc) σ1.log.length (σ1.log.flatMap stepC) := fun W hW i u =>
        own_far hW (g := w.heap.size + 1) ⟨rfl, rfl, rfl, by simp [World.setCell], fun q hq hne => Below.heap_setCell W ⟨w.heap.size + 1, i, none⟩ u q (by rintro rfl; exact hne rfl)⟩ (by omega)
      have h0 := own_below (hne _ (hne _ hrow 0 (.bool b)) 1 (.int .i64 n)) ((Below.refl _ _).alloc (Nat.le_refl _) (.cells #[.bool b, .int .i64 n] 41))
      exact ownsRow_low h0 (by omega)
    have s3 : w3.cell? ⟨c.P, 3, none⟩ = some (.slice V σ1.log.length lc) := hP.cell 3
    have hox4 : Blk (w3.alloc (.cells #[.bool b, .int .i64 n] 41)) (w.heap.size + 1) 41 #[.bool false, .int .i64 0] := hox3.alloc _
    have hbx4 : Blk (w3.alloc (.cells #[.bool b, .int .i64 n] 41)) w3.heap.size 41 #[.bool b, .int .i64 n] := blk_at rfl
    have yz0 : w3.cell? ⟨w.heap.size + 1, 0, none⟩ = some (.bool false) := hox3.cell 0; have yz1 : w3.cell? ⟨w.heap.size + 1, 1, none⟩ = some (.int .i64 0) := hox3.cell 1; have yf0 := hox3.frozen 0; have yf1 := hox3.frozen 1; have ye0 : (w3.setCell ⟨w.heap.size + 1, 0, none⟩ (.bool b)).cell? ⟨w.heap.size + 1, 0, none⟩ = some (.bool b) := (hox3.set_ 0 _).cell 0; have ye1 : ((w3.setCell ⟨w.heap.size + 1, 0, none⟩ (.bool b)).setCell ⟨w.heap.size + 1, 1, none⟩ (.int .i64 n)).cell? ⟨w.heap.size + 1, 1, none⟩ = some (.int .i64 n) := ((hox3.set_ 0 _).set_ 1 _).cell 1
    have hox6 := ((((hox3.set_ 0 (.bool b)).set_ 1 (.int .i64 n)).alloc (.cells #[.bool b, .int .i64 n] 41)).drew)
    have yg0 : (((w3.setCell ⟨w.heap.size + 1, 0, none⟩ (.bool b)).setCell ⟨w.heap.size + 1, 1, none⟩ (.int .i64 n)).alloc (.cells #[.bool b, .int .i64 n] 41)).drew.cell? ⟨w.heap.size + 1, 0, none⟩ = some (.bool b) := hox6.cell 0
    have yg1 : (((w3.setCell ⟨w.heap.size + 1, 0, none⟩ (.bool b)).setCell ⟨w.heap.size + 1, 1, none⟩ (.int .i64 n)).alloc (.cells #[.bool b, .int .i64 n] 41)).drew.cell? ⟨w.heap.size + 1, 1, none⟩ = some (.int .i64 n) := hox6.cell 1
    have HG0 := Lib.hid yg0
    have HG1 := Lib.hid yg1
    clear yg0 yg1 hox6
    have z0 : w3.cell? ⟨w.heap.size + 1, 0, none⟩ = some (.bool false) := hox3.cell 0
    have z1 : w3.cell? ⟨w.heap.size + 1, 1, none⟩ = some (.int .i64 0) := hox3.cell 1
    have f0 := hox3.frozen 0
    have f1 := hox3.frozen 1
    have hl3 := hox3.lt
    have hPl := hP.lt
    have hPne : c.P ≠ w.heap.size + 1 := by omega
    have hne3 : w3.heap.size ≠ w.heap.size + 1 := by omega
    have HTI := Lib.hid hti
    have HRW := Lib.hid hrow3
    have HLL := Lib.hid hl'
    rw [hbn]
    clear q1 q2 HRU hpar hok F hrow hP hti hrow3 hl' hox4 hbx4
    go_wp2_with fail
    go_region
    all_goals
      go_wp2
      exact bodyPost_ret (v := .tuple #[.agg #[.bool b, .int .i64 n], .slice V σ1.log.length lc, .int .i64 0]) (by simp only [results, Try.results15]; simp [go_sem, HG0.out, HG1.out]) rfl ⟨(by repeat (first | exact Below.refl _ _ | assumption | refine Below.drew ?_ | refine below_drewN ?_ _ | refine Below.alloc ?_ (by first | omega | (simp; omega) | simp) _ | refine Below.setCell ?_ (by first | omega | (simp; omega) | simp) _)), .inr ⟨HL0.out, v, σ1, V, lc, l', ⟨m, HPK.out⟩, HAG.out, HTI.out, HLL.out, by rw [hbn], HRW.out⟩⟩
  · have hxb : (lookG g s != 0) = true := by rw [bne_iff_ne]; exact hl0
    have H0 := Lib.hid hl0
    have HX : Hid (∃ x, lookG g s = x ∧ x ≠ 0) := ⟨_, rfl, hl0⟩
    clear hl0
    go_enter Try.func15, Try.ntmps15
    go_wp2_with fail
    refine (HLK.out _ (by repeat (first | exact Below.refl _ _ | assumption | refine Below.drew ?_ | refine below_drewN ?_ _ | refine Below.alloc ?_ (by first | omega | (simp; omega) | simp) _ | refine Below.setCell ?_ (by first | omega | (simp; omega) | simp) _))).mono ?_
    rintro e w1 ⟨rfl, hb1⟩
    have hw1 : Below w.heap.size w w1 := (((Below.refl _ w).alloc (Nat.le_refl _) _).alloc (by simp) _).trans (hb1.mono (by simp; omega))
    have hox : Blk w1 (w.heap.size + 1) 41 #[.bool false, .int .i64 0] := (blk_at (by simp)).below hb1 (by simp)
    have yz0 : w1.cell? ⟨w.heap.size + 1, 0, none⟩ = some (.bool false) := hox.cell 0; have yz1 : w1.cell? ⟨w.heap.size + 1, 1, none⟩ = some (.int .i64 0) := hox.cell 1; have yf0 := hox.frozen 0; have yf1 := hox.frozen 1; have ye0 : (w1.setCell ⟨w.heap.size + 1, 0, none⟩ (.bool false)).cell? ⟨w.heap.size + 1, 0, none⟩ = some (.bool false) := (hox.set_ 0 _).cell 0; have ye1 : ((w1.setCell ⟨w.heap.size + 1, 0, none⟩ (.bool false)).setCell ⟨w.heap.size + 1, 1, none⟩ (.int .i64 0)).cell? ⟨w.heap.size + 1, 1, none⟩ = some (.int .i64 0) := ((hox.set_ 0 _).set_ 1 _).cell 1
    have hzw := hw1.size
    clear hb1
    go_wp2
    exact bodyPost_ret (v := .tuple #[.agg #[.bool false, .int .i64 0], .slice none 0 0, .int .i64 (lookG g s)]) (by simp [results, Try.results15, go_sem, ye0, ye1]) rfl ⟨(by repeat (first | exact Below.refl _ _ | assumption | refine Below.drew ?_ | refine below_drewN ?_ _ | refine Below.alloc ?_ (by first | omega | (simp; omega) | simp) _ | refine Below.setCell ?_ (by first | omega | (simp; omega) | simp) _)), .inl ⟨H0.out, rfl⟩⟩
end Go.Proofs.Ytkmcnekjimobhaa

/- The law PackRest: plain; outcomes compared; what stands ahead makes no difference. -/
namespace Go.Proofs.Ytkmcnekjimobhaa
open Go.RowKit Go.Maps

theorem run_same_out (w : World) (b b' : Bool) (n n' : Int) : (Op.equalIn 10000 41 (.agg #[.bool b, .int .i64 n]) (.agg #[.bool b', .int .i64 n'])).run Try.prog w = .ok (b == b' && n == n') w := by
  have u4 := Try.underlying4
  have a4 := Try.isAgg4
  have z4 := Try.sizeOf4
  have u3 := Try.underlying3
  have a3 := Try.isAgg3
  have z3 := Try.sizeOf3
  have hS : Try.prog.underlying 41 = some (.struct (Try.prog.fieldsOf 41)) := by kernel_rfl
  have hp : Try.prog.stoodInHeld 41 = false := by kernel_rfl
  rw [show (10000 : Nat) = 9999 + 1 from rfl, run_equalIn_agg w 9999 41 _ _ hS hp]
  simp only [Program.fieldsOf, Try.underlying41]
  go_simp
  cases b <;> cases b' <;> cases h : (n == n') <;> simp_all
theorem outV_eq (v : Option Nat) : outV v = .agg #[.bool v.isSome, .int .i64 (v.getD 0 : Nat)] := by cases v <;> rfl
def ltX : ByteArray := ⟨#[120]⟩
theorem rest_look : lookG [(nameA, litE ⟨#[120]⟩)] ⟨#[121, 120]⟩ = 0 := by decide +kernel
theorem rest_ev : ev [(nameA, litE ⟨#[120]⟩)] [121, 120] 1 (litE ⟨#[120]⟩) 1 = some (some 2) := by decide +kernel

section
variable {g : List Rl} (a s : List UInt8)
theorem bt_past (p : Nat) : bt (a ++ s) (a.length + p) = bt s p := by
  unfold bt
  rw [List.getD_eq_getElem?_getD, List.getD_eq_getElem?_getD, List.getElem?_append_right (by omega), Nat.add_sub_cancel_left]
theorem lit_past (p : Nat) (t : List UInt8) : litAt (a ++ s) (a.length + p) t = litAt s p t := by
  unfold litAt
  rw [List.drop_append, List.drop_of_length_le (by omega), List.nil_append, Nat.add_sub_cancel_left]
theorem ev_past : ∀ n j p, evJ g (a ++ s) n j (a.length + p) = (evJ g s n j p).map (Option.map (a.length + ·)) := by
  intro n
  induction n with
  | zero => intro j p; rfl
  | succ n ih =>
    intro j p
    cases j with
    | ex e =>
      obtain ⟨k, x1, x2, x3, x4, t, ks⟩ := e
      have h1 := ev_s g (a ++ s) n k x1 x2 x3 x4 t ks (a.length + p)
      have h2 := ev_s g s n k x1 x2 x3 x4 t ks p
      unfold ev at h1 h2
      rw [h1, h2, bt_past, lit_past]
      unfold evS evA evK
      split
      · rfl
      split
      · by_cases hc : p < s.length ∧ hasE x1 x2 x3 x4 (bt s p) = true
        · rw [if_pos hc, if_pos ⟨by rw [List.length_append]; omega, hc.2⟩]; simp; omega
        · rw [if_neg hc, if_neg (fun h => hc ⟨by have := h.1; rw [List.length_append] at this; omega, h.2⟩)]; rfl
      split
      · split
        · simp; omega
        · rfl
      split
      · cases g[(fnd g t.data.toList).toNat]? with
        | none => rfl
        | some r => exact ih _ p
      split
      · exact ih _ p
      split
      · exact ih _ p
      cases ks with
      | nil => rfl
      | cons e es => exact ih _ p
    | kid k e =>
      have h1 := evK_s g (a ++ s) n k e (a.length + p)
      have h2 := evK_s g s n k e p
      unfold evK ev evR at h1 h2
      rw [h1, h2, ih (.ex e) p, ih (.rep e) p]
      split
      · rfl
      cases evJ g s n (.ex e) p with
      | none => rfl
      | some o =>
        cases o with
        | none =>
          simp only [Option.map_some, Option.map_none]
          split <;> rfl
        | some q =>
          simp only [Option.map_some]
          split
          · exact ih _ q
          split
          · rfl
          split <;> rfl
    | seq es =>
      cases es with
      | nil => rfl
      | cons e es =>
        have h1 := evS_cons g (a ++ s) n e es (a.length + p)
        have h2 := evS_cons g s n e es p
        unfold evS ev at h1 h2
        rw [h1, h2, ih (.ex e) p]
        cases evJ g s n (.ex e) p with
        | none => rfl
        | some o =>
          cases o with
          | none => rfl
          | some q => exact ih _ q
    | alt es =>
      cases es with
      | nil => rfl
      | cons e es =>
        have h1 := evA_cons g (a ++ s) n e es (a.length + p)
        have h2 := evA_cons g s n e es p
        unfold evA ev at h1 h2
        rw [h1, h2, ih (.ex e) p]
        cases evJ g s n (.ex e) p with
        | none => rfl
        | some o =>
          cases o with
          | none => exact ih _ p
          | some q => rfl
    | rep e =>
      have h1 := evR_s g (a ++ s) n e (a.length + p)
      have h2 := evR_s g s n e p
      unfold evR ev at h1 h2
      rw [h1, h2, ih (.ex e) p]
      cases evJ g s n (.ex e) p with
      | none => rfl
      | some o =>
        cases o with
        | none => rfl
        | some q => exact ih _ q
end
theorem look_same {g : List Rl} {s t : ByteArray} (hs : s.size ≤ 60) (ht : t.size ≤ 60) : lookG g s = lookG g t := by
  unfold lookG
  rw [if_neg (by omega : ¬ 60 < s.size), if_neg (by omega : ¬ 60 < t.size)]
theorem rest_law {g : List Rl} {i : Int} {a s t : ByteArray} {v v' : Option Nat} {x x' : Int} (ht : t.data.toList = a.data.toList ++ s.data.toList) (h60 : a.size + s.size ≤ 60) (h : AtR g i t a.size v x) (h' : AtR g i s 0 v' x') : v = v' ∧ x = x' := by
  have l1 : a.data.toList.length = a.size := size_list a
  have l2 : s.data.toList.length = s.size := size_list s
  have l3 : t.size = a.size + s.size := by
    have l3 : t.data.toList.length = t.size := size_list t
    rw [← l3, ht, List.length_append, l1, l2]
  have hl : lookG g t = lookG g s := look_same (by omega) (by omega)
  rcases h with ⟨h1, rfl, rfl⟩ | ⟨h1, h2, rfl, rfl⟩ | ⟨h1, j, q, r, o, rfl, hq, hqs, hr, hsem, rfl, rfl⟩ <;> rcases h' with ⟨h1', rfl, rfl⟩ | ⟨h1', h2', rfl, rfl⟩ | ⟨h1', j', q', r', o', hj, hq', hqs', hr', hsem', rfl, rfl⟩
  · exact ⟨rfl, hl⟩
  · exact absurd (hl.trans h1') h1
  · exact absurd (hl.trans h1') h1
  · exact absurd (hl.symm.trans h1) h1'
  · exact ⟨rfl, rfl⟩
  · exfalso
    have := getElem?_lt hr'
    omega
  · exact absurd (hl.symm.trans h1) h1'
  · exfalso
    have := getElem?_lt hr
    omega
  · have : j = j' := by omega
    subst this
    rw [hr] at hr'
    injection hr' with hr'
    subst hr'
    have hq1 : q = a.size := by omega
    have hq2 : q' = 0 := by omega
    subst hq1 hq2
    obtain ⟨n, hn⟩ := hsem
    obtain ⟨m, hm⟩ := hsem'
    have hp := ev_past (g := g) a.data.toList s.data.toList m (.ex r.2) 0
    rw [show evJ g s.data.toList m (.ex r.2) 0 = some o' from hm, Nat.add_zero, l1, ← ht] at hp
    have := ev_eq hn hp
    subst this
    refine ⟨?_, rfl⟩
    cases o' with
    | none => rfl
    | some q => simp
end Go.Proofs.Ytkmcnekjimobhaa

/- list.Accepts: what it answers; the errors that a look may tell. -/
namespace Go.Proofs.Ytkmcnekjimobhaa
open Go.RowKit Go.Maps

theorem look_lt : ∀ (e : Ex) (n d : Nat), 0 ≤ (lookN e n d).1 ∧ (lookN e n d).1 ≤ 5 := by
  intro e
  refine Ex.ind (P := fun e => ∀ (n d : Nat), 0 ≤ (lookN e n d).1 ∧ (lookN e n d).1 ≤ 5) ?_ e
  intro k a b c d t ks ih n dp
  rw [lookN]
  split
  · simp only; omega
  split
  · simp only; omega
  split
  · simp only; omega
  · have : ∀ (es : List Ex), (∀ e ∈ es, e ∈ ks) → ∀ n d, 0 ≤ (looks es n d).1 ∧ (looks es n d).1 ≤ 5 := by
      intro es
      induction es with
      | nil => intro _ n d; rw [looks]; simp only; omega
      | cons e es ihe =>
        intro hm n d
        rw [looks]
        split
        · exact ihe (fun x hx => hm x (by simp [hx])) _ _
        · exact ih e (hm e (by simp)) n d
    exact this ks (fun e he => he) _ _
theorem check_lt (g : List Rl) : 0 ≤ checkG g ∧ checkG g ≤ 7 := by
  have h1 : ∀ (l : List Rl) (i all : Nat), 0 ≤ (chk1 g l i all).1 ∧ (chk1 g l i all).1 ≤ 7 := by
    intro l
    induction l with
    | nil => intro i all; rw [chk1]; simp only; omega
    | cons r l ih =>
      intro i all
      rw [chk1]
      split
      · simp only; omega
      split
      · simp only; omega
      split
      · have := look_lt r.2 0 1
        simp only
        unfold checkE
        omega
      · exact ih _ _
  have h2 : ∀ (l : List Rl), 0 ≤ chk2 g l ∧ chk2 g l ≤ 7 := by
    intro l
    induction l with
    | nil => rw [chk2]; omega
    | cons r l ih =>
      rw [chk2]
      split
      · omega
      · exact ih
  unfold checkG
  split
  · omega
  split
  · omega
  split
  · exact h1 g 0 0
  split
  · omega
  · exact h2 g
theorem lookG_lt (g : List Rl) (s : ByteArray) : 0 ≤ lookG g s ∧ lookG g s ≤ 9 := by
  have h := check_lt g
  have hw : 0 ≤ (wellG g).2 ∧ (wellG g).2 ≤ 9 := by
    unfold wellG
    split
    · simp only; omega
    · split
      · simp only; omega
      · split <;> simp only <;> omega
  unfold lookG
  split
  · exact hw
  · split <;> omega

section
variable {g : List Rl} {s : List UInt8} {hook : Bool} {fs : List Fa}
/-- what a try makes is what the grammar means -/
theorem pk_goesA (H : Fits g fs) {n m num p : Nat} {e : Ex} {u u' : Option Nat} {σ σ1 : PS} (hrt : Rt g e) (hp : p ≤ s.length) (he : ev g s n e p = some u) (hσ : Agree g s σ) (h : pk g s hook m (.try_ e num) p σ = some (u', σ1)) : u' = u ∧ Agree g s σ1 := by
  obtain ⟨m0, σ0, h0, ha, _⟩ := ((goes (hook := hook) H n).1 e p u hrt hp he σ num hσ).try_
  have e1 := pk_le h0 (Nat.le_max_left m0 m)
  have e2 := pk_le h (Nat.le_max_right m0 m)
  rw [e1] at e2
  injection e2 with e2
  injection e2 with e2 e3
  subst e2 e3
  exact ⟨rfl, ha⟩
end
/-- what Run finds is what the grammar means -/
theorem sem_run {g : List Rl} (W : WellG g) {s : List UInt8} {n m : Nat} {r : Rl} {o o' : Option Nat} {σ1 : PS} (hr : g[0]? = some r) (he : ev g s n r.2 0 = some o) (hpk : pk g s false m (.rule 0) 0 ps0 = some (o', σ1)) : o' = o := by
  cases m with
  | zero => cases hpk
  | succ m =>
    have H := fits_of W.right
    have hrt := W.right.rt r (List.mem_of_getElem? hr)
    simp only [pk] at hpk
    have h0 : recall ps0.seen (0, 0) = none := rfl
    rw [h0, hr] at hpk
    simp only at hpk
    cases hq : pk g s false m (.try_ r.2 (firstN g 0)) 0 ps0 with
    | none => rw [hq] at hpk; cases hpk
    | some x =>
      obtain ⟨u, σ2⟩ := x
      obtain ⟨rfl, _⟩ := pk_goesA (hook := false) H hrt (Nat.zero_le _) he (agree0 g s) hq
      rw [hq] at hpk
      simp only at hpk
      split at hpk
      · cases hpk
      · simp only [Option.some.injEq, Prod.mk.injEq] at hpk
        obtain ⟨rfl, rfl⟩ := hpk
        rfl

/-- what a grammar makes of a text -/
noncomputable def outG (g : List Rl) (s : ByteArray) : Option Nat := Classical.epsilon fun o => ∃ r, g[0]? = some r ∧ Sem g s.data.toList r.2 0 o
theorem outG_is {g : List Rl} {s : ByteArray} {r : Rl} {o : Option Nat} (hr : g[0]? = some r) (h : Sem g s.data.toList r.2 0 o) : outG g s = o := by
  obtain ⟨r', hr', h'⟩ := Classical.epsilon_spec (p := fun o => ∃ r, g[0]? = some r ∧ Sem g s.data.toList r.2 0 o) ⟨o, r, hr, h⟩
  rw [hr] at hr'
  injection hr' with hr'
  subst hr'
  exact h'.eq h
theorem run_out {g : List Rl} {s : ByteArray} (hl0 : lookG g s = 0) {m : Nat} {o : Option Nat} {σ1 : PS} (h : pk g s.data.toList false m (.rule 0) 0 ps0 = some (o, σ1)) : outG g s = o ∧ ∀ k, o = some k → k ≤ s.size := by
  obtain ⟨W, h60⟩ := look_zero hl0
  have hpos := W.right.pos
  obtain ⟨r, hr⟩ : ∃ r, g[0]? = some r := ⟨_, List.getElem?_eq_getElem hpos⟩
  obtain ⟨n, o', he⟩ := ends (s := s.data.toList) W (p := 0) (by omega) (W.good (List.mem_of_getElem? hr))
  obtain rfl := sem_run W hr he h
  refine ⟨outG_is hr ⟨n, he⟩, fun k hk => ?_⟩
  have ht := (told (s := s.data.toList) (fits_of W.right) n).1 r.2 0 o (W.right.rt r (List.mem_of_getElem? hr)) (by omega) he
  rw [hk] at ht
  have := ht.2.1
  rw [size_list] at this
  exact this
/-- what list.Accepts answers -/
noncomputable def accG (g : List Rl) (s : ByteArray) : Bool := decide (lookG g s = 0) && ((outG g s).isSome && decide ((outG g s).getD 0 = s.size))

set_option maxRecDepth 100000 in
set_option maxHeartbeats 4000000 in
theorem acc_any {g : List Rl} {A : Option Addr} {cp : Nat} {row : Nat → List Value} {w : World} (h : GrIs w w.heap.size g A cp row) (hwf : ∀ r ∈ g, WfE r.2) (s : ByteArray) :
    Calls Try.prog 48 #[.agg #[.slice A g.length cp], .string s] w fun e w' => e = .returned (.tuple #[.bool (accG g s), .int .i64 (lookG g s)]) ∧ Below w.heap.size w w' := by
  have hrn := fun W (hW : Below w.heap.size w W) => run_any (h.grow hW) hwf s
  have HR := Lib.hid hrn
  generalize hY : accG g s = Y
  generalize hX : lookG g s = X
  have HY := Lib.hid hY
  have HX := Lib.hid hX
  clear hrn h hwf hX hY
  go_enter Try.func48, Try.ntmps48
  go_wp2_with fail
  refine (HR.out _ (by repeat (first | exact Below.refl _ _ | assumption | refine Below.drew ?_ | refine below_drewN ?_ _ | refine Below.alloc ?_ (by first | omega | (simp; omega) | simp) _ | refine Below.setCell ?_ (by first | omega | (simp; omega) | simp) _))).mono ?_
  rintro e w1 ⟨hb1, hq⟩
  have hw1 : Below w.heap.size w w1 := ((Below.refl _ w).alloc (Nat.le_refl _) _).trans (hb1.mono (by simp))
  have hz1 := hw1.size
  clear hb1
  rcases hq with ⟨hne, rfl⟩ | ⟨hl0, o, σ1, V, lc, l', ⟨m, hpk⟩, ha, ht, hl, rfl, ho⟩
  · rw [HX.out] at hne ⊢
    have hxb : (X == 0) = false := by rw [beq_eq_false_iff_ne]; exact hne
    obtain rfl : Y = false := by rw [← HY.out]; unfold accG; rw [HX.out, decide_eq_false hne, Bool.false_and]
    rw [outV_eq]
    clear hne HX HY
    go_wp2
    go_ret2
    exact ⟨rfl, (by repeat (first | exact Below.refl _ _ | assumption | refine Below.drew ?_ | refine below_drewN ?_ _ | refine Below.alloc ?_ (by first | omega | (simp; omega) | simp) _ | refine Below.setCell ?_ (by first | omega | (simp; omega) | simp) _))⟩
  · clear ha ht hl ho
    obtain ⟨h1, h2⟩ := run_out hl0 hpk
    have hy : Y = (o.isSome && decide (o.getD 0 = s.size)) := by rw [← HY.out]; unfold accG; rw [hl0, h1]; rfl
    obtain rfl : X = 0 := by rw [← HX.out]; exact hl0
    rw [outV_eq]
    clear hl0 hpk h1 h2 HX HY
    generalize σ1.log.length = ll
    cases o with
    | none =>
      obtain rfl : Y = false := hy
      go_wp2
      go_ret2
      exact ⟨rfl, (by repeat (first | exact Below.refl _ _ | assumption | refine Below.drew ?_ | refine below_drewN ?_ _ | refine Below.alloc ?_ (by first | omega | (simp; omega) | simp) _ | refine Below.setCell ?_ (by first | omega | (simp; omega) | simp) _))⟩
    | some k =>
      have hy2 : Y = decide (k = s.size) := hy
      have hk : ((k : Int) == (s.size : Int)) = decide (k = s.size) := by rw [Bool.eq_iff_iff]; simp; omega
      rw [← hk] at hy2
      clear hk hy
      subst hy2
      simp only [Option.isSome_some, Option.getD_some]
      go_wp2
      go_ret2
      exact ⟨rfl, (by repeat (first | exact Below.refl _ _ | assumption | refine Below.drew ?_ | refine below_drewN ?_ _ | refine Below.alloc ?_ (by first | omega | (simp; omega) | simp) _ | refine Below.setCell ?_ (by first | omega | (simp; omega) | simp) _))⟩

end Go.Proofs.Ytkmcnekjimobhaa
