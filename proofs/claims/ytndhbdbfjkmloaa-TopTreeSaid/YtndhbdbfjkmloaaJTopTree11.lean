/- pack.At, pack.Run: what they answer. Expressions and grammars that a law builds: lit, ref, of, one. The law PackRest: plain; outcomes compared; what stands ahead makes no difference. A region that draws its order: operations that are quiet in a class of worlds, then one that all of them feed (a call that turns the world), then others that are quiet behind it: one walk of the text's order serves. A region that draws its order: operations that only read (each has one value in all worlds of a class) are taken first; of the others all that may come up are looked at, one by one; operations may be late: behind them the class need not hold. Drawn regions (QSpl): a read is taken first also where late operations wait for it through others. -/
import Derived.Test.YtndhbdbfjkmloaaJTopTree10
import Derived.Test.YtndhbdbfjkmloaaJTopTree1
import Derived.Test.YtndhbdbfjkmloaaJTopTree5
import Derived.Laws.OwnMore
import Derived.Deep.RegionLawGrows
import Derived.Test.YtndhbdbfjkmloaaJTopTree0
namespace Go.Proofs.Ytndhbdbfjkmloaa
open Go.RowKit Go.Maps

/-- it comes to this -/
def Sem (g : List Rl) (s : List UInt8) (e : Ex) (p : Nat) (o : Option Nat) : Prop := ∃ n, ev g s n e p = some o
theorem Sem.eq {g : List Rl} {s : List UInt8} {e : Ex} {p : Nat} {o o' : Option Nat} (h : Sem g s e p o) (h' : Sem g s e p o') : o = o' := by
  obtain ⟨n, h⟩ := h
  obtain ⟨m, h'⟩ := h'
  exact ev_eq h h'

theorem agree0 (g : List Rl) (s : List UInt8) : Agree g s ps0 := fun i p o h => by cases h
theorem bound0 (L : Nat) : Bound L ps0 := fun i p n h => by cases h
/-- a rule of a grammar that is well comes to what it means -/
theorem rule_goes {g : List Rl} (W : WellG g) (s : List UInt8) {i p : Nat} {r : Rl} (hr : g[i]? = some r) (hp : p ≤ s.length) : ∃ o m σ1, Sem g s r.2 p o ∧ pk g s false m (.rule i) p ps0 = some (o, σ1) ∧ Agree g s σ1 := by
  obtain ⟨n, o, he⟩ := ends (s := s) W hp (W.good (List.mem_of_getElem? hr))
  obtain ⟨m, σ1, h1, h2, _⟩ := goes_rule (hook := false) (fits_of W.right) hp hr he (fun n0 _ o ho σ num hσ => (goes (fits_of W.right) n0).1 r.2 p o (W.right.rt r (List.mem_of_getElem? hr)) hp ho σ num hσ) (agree0 g s)
  exact ⟨o, m, σ1, ⟨n, he⟩, h1, h2⟩

theorem look_zero {g : List Rl} {s : ByteArray} (h : lookG g s = 0) : WellG g ∧ s.size ≤ 60 := by
  unfold lookG at h
  split at h
  · rename_i hc; exact absurd h hc
  rename_i hc
  split at h
  · simp at h
  · exact ⟨well_of (by simpa using hc), by omega⟩
theorem sixty_of {g : List Rl} (R : RightG g) : ∀ r ∈ g, nodes r.2 ≤ 60 := fun r hr => nodes_le (R.body r hr)
/-- a parser made of a grammar that is well is fit -/
theorem PC.fit {c : PC} (W : WellG c.g) (h60 : c.s.size ≤ 60) (hok : c.Ok) (hk : c.hk = false) (hl : c.lim = 1000000000000) (hh : c.hook = .nilFunc) (hwf : ∀ r ∈ c.g, WfE r.2) : c.Fit :=
  ⟨hok, .inl ⟨hk, hh⟩, by have := W.right.ten; omega, by rw [show c.s.data.toList.length = c.s.size from size_list _]; omega, fun r hr => ⟨W.right.rt r hr, hwf r hr⟩, fun i r hr => by
    have h1 := firstN_le (sixty_of W.right) i
    have h2 := (sixty_of W.right) r (List.mem_of_getElem? hr)
    have h3 := getElem?_lt hr
    have h4 := W.right.ten
    omega⟩

/-- what At answers: an outcome, a number -/
def AtR (g : List Rl) (i : Int) (s : ByteArray) (p : Int) (v : Option Nat) (x : Int) : Prop :=
  (lookG g s ≠ 0 ∧ v = none ∧ x = lookG g s) ∨ (lookG g s = 0 ∧ (i < 0 ∨ (g.length : Int) ≤ i ∨ p < 0 ∨ (s.size : Int) < p) ∧ v = none ∧ x = 1) ∨
  (lookG g s = 0 ∧ ∃ (j q : Nat) (r : Rl) (o : Option Nat), i = j ∧ p = q ∧ q ≤ s.size ∧ g[j]? = some r ∧ Sem g s.data.toList r.2 q o ∧ v = o.map (· - q) ∧ x = 0)
def AtQ (g : List Rl) (i : Int) (s : ByteArray) (p : Int) (w : World) (e : Ending) (w' : World) : Prop := ∃ v x, AtR g i s p v x ∧ e = .returned (.tuple #[outV v, .int .i64 x]) ∧ Below w.heap.size w w'

set_option maxRecDepth 100000 in
set_option maxHeartbeats 8000000 in
theorem at_any {g : List Rl} {A : Option Addr} {cp : Nat} {row : Nat → List Value} {w : World} (h : GrIs w w.heap.size g A cp row) (hwf : ∀ r ∈ g, WfE r.2) (i : Int) (s : ByteArray) (p : Int) :
    Calls Try.prog 13 #[.agg #[.slice A g.length cp], .int .i64 i, .string s, .int .i64 p] w (AtQ g i s p w) := by
  have hlk := fun W (hW : Below w.heap.size w W) => mlook_any ((h.on hW).more hW.size) s
  have HLK := Lib.hid hlk
  have HG := Lib.hid h
  have HWF := Lib.hid hwf
  clear hlk h hwf
  by_cases hl0 : lookG g s = 0
  · obtain ⟨W, h60⟩ := look_zero hl0
    rw [hl0] at HLK
    have HL0 := Lib.hid hl0
    have HW := Lib.hid W
    have h10 := W.right.ten
    clear hl0 W
    by_cases hbad : i < 0 ∨ (g.length : Int) ≤ i ∨ p < 0 ∨ (s.size : Int) < p
    · have HR : Hid (AtR g i s p none 1) := .inr (.inl ⟨HL0.out, hbad, rfl, rfl⟩)
      have h4 : i < 0 ∨ (¬ i < 0 ∧ (g.length : Int) ≤ i) ∨ (¬ i < 0 ∧ ¬ (g.length : Int) ≤ i ∧ p < 0) ∨ (¬ i < 0 ∧ ¬ (g.length : Int) ≤ i ∧ ¬ p < 0 ∧ (s.size : Int) < p) := by omega
      clear hbad
      rcases h4 with h1 | ⟨h1, h2⟩ | ⟨h1, h2, h3⟩ | ⟨h1, h2, h3, h4⟩
      all_goals
        go_enter Try.func13, Try.ntmps13
        go_wp2_with fail
        refine (HLK.out _ (by repeat (first | exact Below.refl _ _ | assumption | refine Below.drew ?_ | refine below_drewN ?_ _ | refine Below.alloc ?_ (by first | omega | (simp; omega) | simp) _ | refine Below.setCell ?_ (by first | omega | (simp; omega) | simp) _))).mono ?_
        rintro e w1 ⟨rfl, hb1⟩
        have hw1 : Below w.heap.size w w1 := (((Below.refl _ w).alloc (Nat.le_refl _) _).alloc (by simp) _).trans (hb1.mono (by simp; omega))
        have hgx : Blk w1 w.heap.size 35 #[.slice A g.length cp] := ((blk_at rfl).alloc _).below hb1 (by simp; omega)
        have hox : Blk w1 (w.heap.size + 1) 48 #[.bool false, .int .i64 0] := (blk_at (by simp)).below hb1 (by simp)
        have g0 : w1.cell? ⟨w.heap.size, 0, none⟩ = some (.slice A g.length cp) := hgx.cell 0
        have yz0 : w1.cell? ⟨w.heap.size + 1, 0, none⟩ = some (.bool false) := hox.cell 0; have yz1 : w1.cell? ⟨w.heap.size + 1, 1, none⟩ = some (.int .i64 0) := hox.cell 1; have yf0 := hox.frozen 0; have yf1 := hox.frozen 1; have ye0 : (w1.setCell ⟨w.heap.size + 1, 0, none⟩ (.bool false)).cell? ⟨w.heap.size + 1, 0, none⟩ = some (.bool false) := (hox.set_ 0 _).cell 0; have ye1 : ((w1.setCell ⟨w.heap.size + 1, 0, none⟩ (.bool false)).setCell ⟨w.heap.size + 1, 1, none⟩ (.int .i64 0)).cell? ⟨w.heap.size + 1, 1, none⟩ = some (.int .i64 0) := ((hox.set_ 0 _).set_ 1 _).cell 1
        have hzw := hw1.size
        clear hb1
        go_wp2
        exact bodyPost_ret (v := .tuple #[.agg #[.bool false, .int .i64 0], .int .i64 1]) (by simp [results, Try.results13, go_sem, ye0, ye1]) rfl ⟨none, 1, HR.out, rfl, (by repeat (first | exact Below.refl _ _ | assumption | refine Below.drew ?_ | refine below_drewN ?_ _ | refine Below.alloc ?_ (by first | omega | (simp; omega) | simp) _ | refine Below.setCell ?_ (by first | omega | (simp; omega) | simp) _))⟩
    · obtain ⟨j, hj⟩ := Int.eq_ofNat_of_zero_le (show 0 ≤ i by omega)
      obtain ⟨q, hq⟩ := Int.eq_ofNat_of_zero_le (show 0 ≤ p by omega)
      subst hj hq
      have hjl : j < g.length := by omega
      have hqs : q ≤ s.size := by omega
      have h1 : ¬ ((j : Int) < 0) := by omega
      have h2 : ¬ ((g.length : Int) ≤ (j : Int)) := by omega
      have h3 : ¬ ((q : Int) < 0) := by omega
      have h4 : ¬ ((s.size : Int) < (q : Int)) := by omega
      clear hbad
      obtain ⟨r, hr⟩ : ∃ r, g[j]? = some r := ⟨_, List.getElem?_eq_getElem hjl⟩
      have hsl : s.data.toList.length = s.size := size_list s
      obtain ⟨o, m, σ1, hsem, hpk, _⟩ := rule_goes HW.out s.data.toList hr (by rw [hsl]; exact hqs)
      have HR : Hid (AtR g j s q (o.map (· - q)) 0) := .inr (.inr ⟨HL0.out, j, q, r, o, rfl, rfl, hqs, hr, hsem, rfl, rfl⟩)
      have hnew := fun W (hW : Below w.heap.size w W) => new_any ((HG.out.on hW).more hW.size) (by omega) h10 (sixty_of HW.out.right) s
      have HN := Lib.hid hnew
      have HPK := Lib.hid hpk
      clear hnew hpk hsem hr
      go_enter Try.func13, Try.ntmps13
      go_wp2_with fail
      refine (HLK.out _ (by repeat (first | exact Below.refl _ _ | assumption | refine Below.drew ?_ | refine below_drewN ?_ _ | refine Below.alloc ?_ (by first | omega | (simp; omega) | simp) _ | refine Below.setCell ?_ (by first | omega | (simp; omega) | simp) _))).mono ?_
      rintro e w1 ⟨rfl, hb1⟩
      have hw1 : Below w.heap.size w w1 := (((Below.refl _ w).alloc (Nat.le_refl _) _).alloc (by simp) _).trans (hb1.mono (by simp; omega))
      have hgx : Blk w1 w.heap.size 35 #[.slice A g.length cp] := ((blk_at rfl).alloc _).below hb1 (by simp; omega)
      have hox : Blk w1 (w.heap.size + 1) 48 #[.bool false, .int .i64 0] := (blk_at (by simp)).below hb1 (by simp)
      have g0 : w1.cell? ⟨w.heap.size, 0, none⟩ = some (.slice A g.length cp) := hgx.cell 0
      clear hb1
      go_wp2_with fail
      refine (HN.out _ hw1).mono ?_
      rintro e w2 ⟨c, hcg, hcs, hch, ⟨hhk, hlm, -⟩, rfl, hok, hpar, hb2, hcB⟩
      have hw2 : Below w.heap.size w w2 := hw1.trans (hb2.mono hw1.size)
      have hox2 := hox.below hb2 hox.lt
      have F : c.Fit := PC.fit (by rw [hcg]; exact HW.out) (by rw [hcs]; exact h60) hok hhk hlm hch (by rw [hcg]; exact HWF.out)
      have hru := (does F m).2.2 j q ps0 (o, σ1) w2 (by rw [hcg, hcs, hhk]; exact HPK.out) (by rw [hcg]; exact hjl) (by rw [hcs, hsl]; exact hqs) (bound0 _) hpar
      have HRU := Lib.hid hru
      have hzw := hw1.size
      have hxl := hox.lt
      have hBP := hok.BP
      have hBM := hok.BM
      have hBb := hok.Bb
      have hPs := hpar.size
      clear hru hb2
      go_wp2_with fail
      refine HRU.out.mono ?_
      rintro e w3 ⟨⟨v, rfl, hv⟩, q1, q2⟩
      obtain ⟨b, n, hbn⟩ : ∃ (b : Bool) (n : Int), outV v = .agg #[.bool b, .int .i64 n] := by cases v <;> exact ⟨_, _, rfl⟩
      have hvo : v = o.map (· - q) := by
        simp only at hv
        rw [hv]
        cases v with
        | none => rfl
        | some k => simp only [Option.map_some, Option.some.injEq]; omega
      rw [← hvo] at HR
      have hox3 : Blk w3 (w.heap.size + 1) 48 #[.bool false, .int .i64 0] := q2.box hox2 (by decide) (by omega) (by omega)
      have hw3 : Below w.heap.size w w3 := hw2.trans (q2.below (by have := hw2.size; omega) (by omega) (by omega) (by omega))
      have yz0 : w3.cell? ⟨w.heap.size + 1, 0, none⟩ = some (.bool false) := hox3.cell 0; have yz1 : w3.cell? ⟨w.heap.size + 1, 1, none⟩ = some (.int .i64 0) := hox3.cell 1; have yf0 := hox3.frozen 0; have yf1 := hox3.frozen 1; have ye0 : (w3.setCell ⟨w.heap.size + 1, 0, none⟩ (.bool b)).cell? ⟨w.heap.size + 1, 0, none⟩ = some (.bool b) := (hox3.set_ 0 _).cell 0; have ye1 : ((w3.setCell ⟨w.heap.size + 1, 0, none⟩ (.bool b)).setCell ⟨w.heap.size + 1, 1, none⟩ (.int .i64 n)).cell? ⟨w.heap.size + 1, 1, none⟩ = some (.int .i64 n) := ((hox3.set_ 0 _).set_ 1 _).cell 1
      rw [hbn]
      clear q1 q2 HRU hpar hok F
      go_wp2
      exact bodyPost_ret (v := .tuple #[.agg #[.bool b, .int .i64 n], .int .i64 0]) (by simp [results, Try.results13, go_sem, ye0, ye1]) rfl ⟨v, 0, HR.out, by rw [hbn], (by repeat (first | exact Below.refl _ _ | assumption | refine Below.drew ?_ | refine below_drewN ?_ _ | refine Below.alloc ?_ (by first | omega | (simp; omega) | simp) _ | refine Below.setCell ?_ (by first | omega | (simp; omega) | simp) _))⟩
  · have hxb : (lookG g s != 0) = true := by rw [bne_iff_ne]; exact hl0
    have HR : Hid (AtR g i s p none (lookG g s)) := .inl ⟨hl0, rfl, rfl⟩
    clear hl0
    generalize lookG g s = x at hxb HLK HR
    go_enter Try.func13, Try.ntmps13
    go_wp2_with fail
    refine (HLK.out _ (by repeat (first | exact Below.refl _ _ | assumption | refine Below.drew ?_ | refine below_drewN ?_ _ | refine Below.alloc ?_ (by first | omega | (simp; omega) | simp) _ | refine Below.setCell ?_ (by first | omega | (simp; omega) | simp) _))).mono ?_
    rintro e w1 ⟨rfl, hb1⟩
    have hw1 : Below w.heap.size w w1 := (((Below.refl _ w).alloc (Nat.le_refl _) _).alloc (by simp) _).trans (hb1.mono (by simp; omega))
    have hox : Blk w1 (w.heap.size + 1) 48 #[.bool false, .int .i64 0] := (blk_at (by simp)).below hb1 (by simp)
    have yz0 : w1.cell? ⟨w.heap.size + 1, 0, none⟩ = some (.bool false) := hox.cell 0; have yz1 : w1.cell? ⟨w.heap.size + 1, 1, none⟩ = some (.int .i64 0) := hox.cell 1; have yf0 := hox.frozen 0; have yf1 := hox.frozen 1; have ye0 : (w1.setCell ⟨w.heap.size + 1, 0, none⟩ (.bool false)).cell? ⟨w.heap.size + 1, 0, none⟩ = some (.bool false) := (hox.set_ 0 _).cell 0; have ye1 : ((w1.setCell ⟨w.heap.size + 1, 0, none⟩ (.bool false)).setCell ⟨w.heap.size + 1, 1, none⟩ (.int .i64 0)).cell? ⟨w.heap.size + 1, 1, none⟩ = some (.int .i64 0) := ((hox.set_ 0 _).set_ 1 _).cell 1
    have hzw := hw1.size
    clear hb1
    go_wp2
    exact bodyPost_ret (v := .tuple #[.agg #[.bool false, .int .i64 0], .int .i64 x]) (by simp [results, Try.results13, go_sem, ye0, ye1]) rfl ⟨none, x, HR.out, rfl, (by repeat (first | exact Below.refl _ _ | assumption | refine Below.drew ?_ | refine below_drewN ?_ _ | refine Below.alloc ?_ (by first | omega | (simp; omega) | simp) _ | refine Below.setCell ?_ (by first | omega | (simp; omega) | simp) _))⟩
end Go.Proofs.Ytndhbdbfjkmloaa
namespace Go.Proofs.Ytndhbdbfjkmloaa
open Go.RowKit

/-- a literal, a reference, a node of kids -/
def litE (t : ByteArray) : Ex := .mk 3 0 0 0 0 t []
theorem ExIs.grow {w w' : World} {e : Ex} {cs : List Value} (h : ExIs w w.heap.size e cs) (hb : Below w.heap.size w w') : ExIs w' w'.heap.size e cs := h.keep hb.size fun _ hp => hb.cell hp
theorem GrIs.grow {w w' : World} {g : List Rl} {A : Option Addr} {cp : Nat} {row : Nat → List Value} (h : GrIs w w.heap.size g A cp row) (hb : Below w.heap.size w w') : GrIs w' w'.heap.size g A cp row := h.keep hb.size fun _ hp => hb.cell hp
theorem litE_is (w : World) (t : ByteArray) (ht : t.size ≤ maxLen) : ExIs w w.heap.size (litE t) (exCells 3 0 0 0 0 t none 0 0) := ExIs.leaf w _ 3 0 0 0 0 t ht
theorem cell_add (w : World) (g i : Nat) : w.cell? ((⟨g, 0, none⟩ : Addr).add i) = w.cell? ⟨g, i, none⟩ := by
  cases i with
  | zero => rfl
  | succ i => simp [Addr.add]
theorem add_at (g i j : Nat) : ((⟨g, 0, none⟩ : Addr).add i).add j = (⟨g, 0, none⟩ : Addr).add (i + j) := by
  cases i with
  | zero => cases j with
    | zero => rfl
    | succ j => simp [Addr.add]
  | succ i => cases j with
    | zero => rfl
    | succ j => simp [Addr.add]
/-- a grammar of one rule -/
theorem gr_one {W : World} {b : Nat} {T : TypeId} {e : Ex} {r : List Value} {cs : Array Value} {nm : ByteArray} (hn : nm.size ≤ maxLen) (h : ExIs W W.heap.size e r) (hb : Blk W b T cs) (hcs : cs.toList = .string nm :: r) : GrIs W W.heap.size [(nm, e)] (some ⟨b, 0, none⟩) 1 (fun _ => r) := by
  refine ⟨by simp, by unfold maxLen; omega, fun h => (by cases h), fun _ => ⟨_, rfl, hb.lt⟩, fun i x hx => ?_, fun i x hx => ?_, fun i x ad hx hA => ?_, fun i x ad hx hA j u hu => ?_⟩
  · match i, hx with
    | 0, hx => simp at hx; subst hx; exact hn
  · match i, hx with
    | 0, hx => simp at hx; subst hx; exact h
  · match i, hx with
    | 0, hx =>
      simp at hx; subst hx; injection hA with hA; subst hA
      rw [Nat.zero_mul, cell_add, hb.cell, ← Array.getElem?_toList, hcs]; rfl
  · match i, hx with
    | 0, hx =>
      simp at hx; subst hx; injection hA with hA; subst hA
      rw [Nat.zero_mul, add_at, cell_add, hb.cell, ← Array.getElem?_toList, hcs, Nat.zero_add, List.getElem?_cons_succ]; exact hu

def nameA : ByteArray := ⟨#[97]⟩
end Go.Proofs.Ytndhbdbfjkmloaa
namespace Go.Proofs.Ytndhbdbfjkmloaa
open Go.RowKit Go.Maps

theorem outV_eq (v : Option Nat) : outV v = .agg #[.bool v.isSome, .int .i64 (v.getD 0 : Nat)] := by cases v <;> rfl
section
variable {g : List Rl} (a s : List UInt8)
theorem bt_past (p : Nat) : bt (a ++ s) (a.length + p) = bt s p := by
  unfold bt
  rw [List.getD_eq_getElem?_getD, List.getD_eq_getElem?_getD, List.getElem?_append_right (by omega), Nat.add_sub_cancel_left]
theorem lit_past (p : Nat) (t : List UInt8) : litAt (a ++ s) (a.length + p) t = litAt s p t := by
  unfold litAt
  rw [List.drop_append, List.drop_of_length_le (by omega), List.nil_append, Nat.add_sub_cancel_left]
theorem ev_past : ∀ n j p, evJ g (a ++ s) n j (a.length + p) = (evJ g s n j p).map (Option.map (a.length + ·)) := by
  intro n
  induction n with
  | zero => intro j p; rfl
  | succ n ih =>
    intro j p
    cases j with
    | ex e =>
      obtain ⟨k, x1, x2, x3, x4, t, ks⟩ := e
      have h1 := ev_s g (a ++ s) n k x1 x2 x3 x4 t ks (a.length + p)
      have h2 := ev_s g s n k x1 x2 x3 x4 t ks p
      unfold ev at h1 h2
      rw [h1, h2, bt_past, lit_past]
      unfold evS evA evK
      split
      · rfl
      split
      · by_cases hc : p < s.length ∧ hasE x1 x2 x3 x4 (bt s p) = true
        · rw [if_pos hc, if_pos ⟨by rw [List.length_append]; omega, hc.2⟩]; simp; omega
        · rw [if_neg hc, if_neg (fun h => hc ⟨by have := h.1; rw [List.length_append] at this; omega, h.2⟩)]; rfl
      split
      · split
        · simp; omega
        · rfl
      split
      · cases g[(fnd g t.data.toList).toNat]? with
        | none => rfl
        | some r => exact ih _ p
      split
      · exact ih _ p
      split
      · exact ih _ p
      cases ks with
      | nil => rfl
      | cons e es => exact ih _ p
    | kid k e =>
      have h1 := evK_s g (a ++ s) n k e (a.length + p)
      have h2 := evK_s g s n k e p
      unfold evK ev evR at h1 h2
      rw [h1, h2, ih (.ex e) p, ih (.rep e) p]
      split
      · rfl
      cases evJ g s n (.ex e) p with
      | none => rfl
      | some o =>
        cases o with
        | none =>
          simp only [Option.map_some, Option.map_none]
          split <;> rfl
        | some q =>
          simp only [Option.map_some]
          split
          · exact ih _ q
          split
          · rfl
          split <;> rfl
    | seq es =>
      cases es with
      | nil => rfl
      | cons e es =>
        have h1 := evS_cons g (a ++ s) n e es (a.length + p)
        have h2 := evS_cons g s n e es p
        unfold evS ev at h1 h2
        rw [h1, h2, ih (.ex e) p]
        cases evJ g s n (.ex e) p with
        | none => rfl
        | some o =>
          cases o with
          | none => rfl
          | some q => exact ih _ q
    | alt es =>
      cases es with
      | nil => rfl
      | cons e es =>
        have h1 := evA_cons g (a ++ s) n e es (a.length + p)
        have h2 := evA_cons g s n e es p
        unfold evA ev at h1 h2
        rw [h1, h2, ih (.ex e) p]
        cases evJ g s n (.ex e) p with
        | none => rfl
        | some o =>
          cases o with
          | none => exact ih _ p
          | some q => rfl
    | rep e =>
      have h1 := evR_s g (a ++ s) n e (a.length + p)
      have h2 := evR_s g s n e p
      unfold evR ev at h1 h2
      rw [h1, h2, ih (.ex e) p]
      cases evJ g s n (.ex e) p with
      | none => rfl
      | some o =>
        cases o with
        | none => rfl
        | some q => exact ih _ q
end
theorem look_same {g : List Rl} {s t : ByteArray} (hs : s.size ≤ 60) (ht : t.size ≤ 60) : lookG g s = lookG g t := by
  unfold lookG
  rw [if_neg (by omega : ¬ 60 < s.size), if_neg (by omega : ¬ 60 < t.size)]
end Go.Proofs.Ytndhbdbfjkmloaa
namespace Go.Proofs.Ytndhbdbfjkmloaa

section
variable {P : Program} {ops : Array Oper} {md : Region.Mode} {C : World → Prop}
/-- the one in the midst: a call -/
def MidCall (P : Program) (o : Oper) (a : Act) (w : World) (K : Act → World → Prop) : Prop := match (execOp a.eval o).run P w with
  | .ok (.enter f args) w' => w' = w ∧ Calls P f args w (fun e w'' => ∃ v, e = .returned v ∧ K (a.put o.dst v) w'')
  | _ => False
theorem MidCall.wp {o : Oper} {a : Act} {w : World} {K : Act → World → Prop} {Q : Exit → Act → World → Prop} (h : MidCall P o a w K) : o.wp P a w K Q := by
  unfold MidCall at h
  unfold Oper.wp
  generalize (execOp a.eval o).run P w = r at *
  cases r with
  | ok n w' =>
    cases n <;> simp only at h <;> simp only [Oper.upon]
    case enter f args =>
      obtain ⟨e1, hc⟩ := h
      rw [e1]
      exact hc.mono fun e w'' ⟨v, he, hw''⟩ => by subst he; exact hw''
  | halt x w' => simp only at h

end
end Go.Proofs.Ytndhbdbfjkmloaa
namespace Go.Proofs.Ytndhbdbfjkmloaa

section
variable {P : Program} {ops : Array Oper} {md : Region.Mode} {C : World → Prop} {late : Nat → Bool} {Q : Exit → Act → World → Prop}
/-- a step that does not fall out of the way -/
def stepT (P : Program) (o : Oper) (a : Act) (w : World) (K : Act → World → Prop) : Prop := match (execOp a.eval o).run P w with
  | .ok (.value u) w' => K (a.put o.dst u) w'
  | .ok .skip w' => K (a.put o.dst undef) w'
  | .ok (.enter f args) w' => Calls P f args w' (fun e w'' => ∃ v, e = .returned v ∧ K (a.put o.dst v) w'')
  | _ => False
theorem stepT.wp {o : Oper} {a : Act} {w : World} {K : Act → World → Prop} (h : stepT P o a w K) : o.wp P a w K Q := by
  unfold stepT at h
  unfold Oper.wp
  generalize (execOp a.eval o).run P w = r at *
  cases r with
  | ok n w' =>
    cases n <;> simp only at h <;> simp only [Oper.upon]
    case value u => exact h
    case skip => exact h
    case enter f args => exact h.mono fun e w'' ⟨v, he, hw''⟩ => by subst he; exact hw''
  | halt x w' => simp only at h
theorem stepT.mono {o : Oper} {a : Act} {w : World} {K K' : Act → World → Prop} (hK : ∀ a w, K a w → K' a w) (h : stepT P o a w K) : stepT P o a w K' := by
  unfold stepT at *
  generalize (execOp a.eval o).run P w = r at *
  cases r with
  | ok n w' =>
    cases n <;> simp only at h ⊢
    case value u => exact hK _ _ h
    case skip => exact hK _ _ h
    case enter f args => exact h.mono fun e w'' ⟨v, he, hw''⟩ => ⟨v, he, hK _ _ hw''⟩
  | halt x w' => simp only at h
/-- a read: this value, in the world that it got -/
def readW (P : Program) (o : Oper) (a : Act) (w : World) (v : Value) : Prop := match (execOp a.eval o).run P w with
  | .ok (.value u) w' => w' = w ∧ u = v
  | .ok .skip w' => w' = w ∧ v = undef
  | _ => False
def ReadC (P : Program) (ops : Array Oper) (C : World → Prop) (o : Oper) (v : Value) (a : Act) : Prop :=
  (Region.wanted o (yielded ops a.tmps) = true ∧ ∀ w, C w → readW P o a w v) ∨ (Region.wanted o (yielded ops a.tmps) = false ∧ v = undef)
def goesI (P : Program) (ops : Array Oper) (i : Nat) (K : Act → World → Prop) (a : Act) (w : World) : Prop := match ops[i]? with
  | none => K a w
  | some o => if Region.wanted o (yielded ops a.tmps) then stepT P o a w K else K (a.put o.dst undef) w
theorem goesI.mono {i : Nat} {a : Act} {w : World} {K K' : Act → World → Prop} (hK : ∀ a w, K a w → K' a w) (h : goesI P ops i K a w) : goesI P ops i K' a w := by
  unfold goesI at *
  split
  · rename_i ho; simp only [ho] at h; exact hK _ _ h
  · rename_i o ho
    simp only [ho] at h
    split
    · rename_i hw; simp only [hw, if_true] at h; exact stepT.mono hK h
    · rename_i hw; simp only [hw] at h; exact hK _ _ h
/-- whatever order is picked from here on -/
def wpAnyL2 (P : Program) (md : Region.Mode) (ops : Array Oper) (C : World → Prop) (late : Nat → Bool) (Q : Exit → Act → World → Prop) : Nat → Array Bool → Act → World → Prop
  | 0, listed, a, w => Region.ready md ops listed = [] ∧ Q .normal a w
  | f + 1, listed, a, w => (Region.ready md ops listed = [] → Q .normal a w) ∧ ∀ i ∈ Region.ready md ops listed, goesI P ops i (fun a' w' => (late i = false → C w') ∧ wpAnyL2 P md ops C late Q f (listed.setIfInBounds i true) a' w') a w
theorem wpAny_of_L : ∀ (f : Nat) (listed : Array Bool) (a : Act) (w : World), wpAnyL2 P md ops C late Q f listed a w → wpAny P md ops Q f listed a w
  | 0, _, _, _, h => h
  | f + 1, listed, a, w, h => ⟨h.1, fun i hi => by
      have h1 := h.2 i hi
      unfold goesI at h1
      unfold wpOp
      split
      · rename_i ho; simp only [ho] at h1; exact wpAny_of_L f _ _ _ h1.2
      · rename_i o ho
        simp only [ho] at h1
        split
        · rename_i hw
          simp only [hw, if_true] at h1
          exact .inl (Oper.wp_mono (fun a' w' h2 => wpAny_of_L f _ _ _ h2.2) (stepT.wp h1))
        · rename_i hw
          simp only [hw] at h1
          exact wpAny_of_L f _ _ _ h1.2⟩
theorem ReadC.of_same {o : Oper} {v : Value} {a a' : Act} (hy : ReadC P ops C o v a) (he : execOp a'.eval o = execOp a.eval o)
    (hw : Region.wanted o (yielded ops a'.tmps) = Region.wanted o (yielded ops a.tmps)) : ReadC P ops C o v a' := by
  unfold ReadC readW at *
  rw [he, hw]
  exact hy
theorem ReadC.goes {i : Nat} {o : Oper} {v : Value} {a : Act} {w : World} (hi : ops[i]? = some o) (hC : C w) (hy : ReadC P ops C o v a) {K : Act → World → Prop} (h : K (a.put o.dst v) w) : goesI P ops i K a w := by
  unfold goesI
  simp only [hi]
  rcases hy with ⟨hw, hv⟩ | ⟨hw, rfl⟩
  · simp only [hw, if_true]
    have h1 := hv w hC
    unfold readW at h1
    unfold stepT
    generalize (execOp a.eval o).run P w = r at *
    cases r with
    | ok n w' =>
      cases n <;> simp only at h1 ⊢
      case value u => obtain ⟨rfl, rfl⟩ := h1; exact h
      case skip => obtain ⟨rfl, rfl⟩ := h1; exact h
    | halt x w' => simp only at h1
  · simp only [hw, Bool.false_eq_true, if_false]; exact h
/-- one operation apart from a read: it makes no difference whether the read's value is there already -/
theorem goesI_put {j : Nat} {oi oj : Oper} {v : Value} (hj : ops[j]? = some oj) (hap : oi.apart ops oj = true)
    (hsi : ∀ cs b, oi.op ≠ .select cs b) (hsj : ∀ cs b, oj.op ≠ .select cs b) {K : Act → World → Prop} {a : Act} {w : World}
    (hy : ReadC P ops C oi v a) (h : goesI P ops j K (a.put oi.dst v) w) :
    goesI P ops j (fun a' w' => ReadC P ops C oi v a' ∧ K (a'.put oi.dst v) w') a w := by
  obtain ⟨h1, h2, h3⟩ := Oper.apart_spec hap
  have keep : ∀ u, ReadC P ops C oi v (a.put oj.dst u) := fun u =>
    hy.of_same (execOp_put oi hsi a oj.dst u h3) (wanted_put oi a oj.dst u h3)
  have hcm : ∀ u, (a.put oi.dst v).put oj.dst u = (a.put oj.dst u).put oi.dst v := fun u => by rw [← Act.put_comm a v u h2]
  unfold goesI at *
  simp only [hj] at *
  rw [wanted_put oj a oi.dst v h1] at h
  split
  · rename_i hw
    simp only [hw, if_true] at h
    unfold stepT at *
    rw [execOp_put oj hsj a oi.dst v h1] at h
    generalize (execOp a.eval oj).run P w = r at *
    cases r with
    | ok n w' =>
      cases n <;> simp only at h ⊢
      case value u => exact ⟨keep u, by rw [← hcm u]; exact h⟩
      case skip => exact ⟨keep _, by rw [← hcm undef]; exact h⟩
      case enter f args => exact h.mono fun e w'' ⟨u, he, hw''⟩ => ⟨u, he, keep u, by rw [← hcm u]; exact hw''⟩
    | halt x w' => simp only at h
  · rename_i hw
    simp only [hw] at h
    exact ⟨keep _, by rw [← hcm undef]; exact h⟩
theorem firstL {i : Nat} {oi : Oper} {v : Value} (hlate : ∀ j, late j = true → ∀ listed : Array Bool, listed.getD i true = false → j ∉ Region.ready md ops listed) (hi : ops[i]? = some oi) (hsel : ∀ (j : Nat) (o : Oper) cs b, ops[j]? = some o → o.op ≠ .select cs b) :
    ∀ (fuel : Nat) (listed : Array Bool) (a : Act) (w : World), C w →
      (∀ j oj, ops[j]? = some oj → j ≠ i → listed.getD j true = false → (∀ e ∈ oj.after, Region.binds md e = true → e.on ≠ i) → oi.apart ops oj = true) →
      i ∈ Region.ready md ops listed → ReadC P ops C oi v a →
      wpAnyL2 P md ops C late Q fuel (listed.setIfInBounds i true) (a.put oi.dst v) w → wpAnyL2 P md ops C late Q (fuel + 1) listed a w := by
  intro fuel
  induction fuel with
  | zero =>
    intro listed a w hC _ hr hy H
    refine ⟨fun h => (by rw [h] at hr; cases hr), fun j hj => ?_⟩
    by_cases hji : j = i
    · subst hji; exact hy.goes hi hC ⟨fun _ => hC, H⟩
    · have := ready_mono hj hji
      rw [H.1] at this
      cases this
  | succ fuel ih =>
    intro listed a w hC hfree hr hy H
    refine ⟨fun h => (by rw [h] at hr; cases hr), fun j hj => ?_⟩
    by_cases hji : j = i
    · subst hji; exact hy.goes hi hC ⟨fun _ => hC, H⟩
    · have h1 := H.2 j (ready_mono hj hji)
      obtain ⟨hjun, oj, hoj, hall⟩ := mem_ready.1 hj
      have hnot : ∀ e ∈ oj.after, Region.binds md e = true → e.on ≠ i := fun e he hb heq => by
        have h1 := hall e he hb
        have h0 := (mem_ready.1 hr).1
        rw [heq] at h1
        rcases Nat.lt_or_ge i listed.size with h' | h'
        · simp [h'] at h0 h1; rw [h0] at h1; cases h1
        · simp [Array.getElem?_eq_none h'] at h1
      have h2 := goesI_put hoj (hfree j oj hoj hji hjun hnot) (fun cs b => hsel i oi cs b hi) (fun cs b => hsel j oj cs b hoj) hy h1
      have hfree' : ∀ k ok, ops[k]? = some ok → k ≠ i → (listed.setIfInBounds j true).getD k true = false →
          (∀ e ∈ ok.after, Region.binds md e = true → e.on ≠ i) → oi.apart ops ok = true := fun k ok hk hki hun hno => by
        refine hfree k ok hk hki ?_ hno
        by_cases hjk : j = k
        · subst hjk; exact hjun
        · rw [getD_set_ne true hjk] at hun; exact hun
      have hjl : late j = false := by
        cases hl : late j with
        | false => rfl
        | true => exact absurd hj (hlate j hl listed (mem_ready.1 hr).1)
      refine goesI.mono (fun a' w' h3 => ⟨h3.2.1, ih (listed.setIfInBounds j true) a' w' (h3.2.1 hjl) hfree' (ready_mono hr (Ne.symm hji)) h3.1 ?_⟩) h2
      rw [Array.setIfInBounds_comm _ _ hji]
      exact h3.2.2

/-- the same for what does not look at the world -/
theorem firstLp {i : Nat} {oi : Oper} {v : Value} (hl : late i = true) (hi : ops[i]? = some oi) (hsel : ∀ (j : Nat) (o : Oper) cs b, ops[j]? = some o → o.op ≠ .select cs b) :
    ∀ (fuel : Nat) (listed : Array Bool) (a : Act) (w : World),
      (∀ j oj, ops[j]? = some oj → j ≠ i → listed.getD j true = false → (∀ e ∈ oj.after, Region.binds md e = true → e.on ≠ i) → oi.apart ops oj = true) →
      i ∈ Region.ready md ops listed → ReadC P ops (fun _ => True) oi v a →
      wpAnyL2 P md ops C late Q fuel (listed.setIfInBounds i true) (a.put oi.dst v) w → wpAnyL2 P md ops C late Q (fuel + 1) listed a w := by
  intro fuel
  induction fuel with
  | zero =>
    intro listed a w _ hr hy H
    refine ⟨fun h => (by rw [h] at hr; cases hr), fun j hj => ?_⟩
    by_cases hji : j = i
    · subst hji; exact hy.goes hi trivial ⟨fun h => (by rw [hl] at h; cases h), H⟩
    · have := ready_mono hj hji
      rw [H.1] at this
      cases this
  | succ fuel ih =>
    intro listed a w hfree hr hy H
    refine ⟨fun h => (by rw [h] at hr; cases hr), fun j hj => ?_⟩
    by_cases hji : j = i
    · subst hji; exact hy.goes hi trivial ⟨fun h => (by rw [hl] at h; cases h), H⟩
    · have h1 := H.2 j (ready_mono hj hji)
      obtain ⟨hjun, oj, hoj, hall⟩ := mem_ready.1 hj
      have hnot : ∀ e ∈ oj.after, Region.binds md e = true → e.on ≠ i := fun e he hb heq => by
        have h1 := hall e he hb
        have h0 := (mem_ready.1 hr).1
        rw [heq] at h1
        rcases Nat.lt_or_ge i listed.size with h' | h'
        · simp [h'] at h0 h1; rw [h0] at h1; cases h1
        · simp [Array.getElem?_eq_none h'] at h1
      have h2 := goesI_put hoj (hfree j oj hoj hji hjun hnot) (fun cs b => hsel i oi cs b hi) (fun cs b => hsel j oj cs b hoj) hy h1
      have hfree' : ∀ k ok, ops[k]? = some ok → k ≠ i → (listed.setIfInBounds j true).getD k true = false →
          (∀ e ∈ ok.after, Region.binds md e = true → e.on ≠ i) → oi.apart ops ok = true := fun k ok hk hki hun hno => by
        refine hfree k ok hk hki ?_ hno
        by_cases hjk : j = k
        · subst hjk; exact hjun
        · rw [getD_set_ne true hjk] at hun; exact hun
      refine goesI.mono (fun a' w' h3 => ⟨h3.2.1, ih (listed.setIfInBounds j true) a' w' hfree' (ready_mono hr (Ne.symm hji)) h3.1 ?_⟩) h2
      rw [Array.setIfInBounds_comm _ _ hji]
      exact h3.2.2

/-- what is late waits for a read -/
def lateB (md : Region.Mode) (ops : Array Oper) (late : Nat → Bool) (i : Nat) : Bool := (List.range ops.size).all fun j => !late j || Region.waitsFor md ops j i
theorem late_spec {i : Nat} (h : lateB md ops late i = true) : ∀ j, late j = true → ∀ listed : Array Bool, listed.getD i true = false → j ∉ Region.ready md ops listed := by
  intro j hj listed hun hr
  obtain ⟨_, oj, hoj, hall⟩ := mem_ready.1 hr
  unfold lateB at h
  have h1 := List.all_eq_true.1 h j (List.mem_range.2 (Array.getElem?_eq_some_iff.1 hoj).1)
  rw [hj] at h1
  simp only [Bool.not_true, Bool.false_or] at h1
  obtain ⟨o', ho', e, he, hb, hon⟩ := Region.waitsFor_spec h1
  have : o' = oj := Option.some.inj (ho'.symm.trans hoj)
  subst this
  have h2 := hall e he hb
  rw [hon, getD_both hun] at h2
  cases h2
/-- a read is taken first -/
theorem L.rd {f i : Nat} {o : Oper} {listed : Array Bool} {a : Act} {w : World} (hi : ops.toList[i]? = some o) (hb : (Region.noSelect ops && (Region.ready md ops listed).contains i && Region.free md ops listed i && lateB md ops late i) = true) (hC : C w) (hg : o.guard = none) {v : Value} (hy : ∀ W, C W → readW P o a W v)
    (h : wpAnyL2 P md ops C late Q f (listed.setIfInBounds i true) (a.put o.dst v) w) : wpAnyL2 P md ops C late Q (f + 1) listed a w := by
  rw [Array.getElem?_toList] at hi
  simp only [Bool.and_eq_true] at hb
  exact firstL (late_spec hb.2) hi (Region.noSelect_spec hb.1.1.1) f listed a w hC (Region.free_spec hi hb.1.2) (by simpa using hb.1.1.2) (.inl ⟨by simp [Region.wanted, hg], hy⟩) h
/-- a read behind what is late: it does not look at the world -/
theorem L.rdl {f i : Nat} {o : Oper} {listed : Array Bool} {a : Act} {w : World} (hi : ops.toList[i]? = some o) (hb : (Region.noSelect ops && (Region.ready md ops listed).contains i && Region.free md ops listed i && late i) = true) (hg : o.guard = none) {v : Value} (hy : ∀ W, readW P o a W v)
    (h : wpAnyL2 P md ops C late Q f (listed.setIfInBounds i true) (a.put o.dst v) w) : wpAnyL2 P md ops C late Q (f + 1) listed a w := by
  rw [Array.getElem?_toList] at hi
  simp only [Bool.and_eq_true] at hb
  exact firstLp hb.2 hi (Region.noSelect_spec hb.1.1.1) f listed a w (Region.free_spec hi hb.1.2) (by simpa using hb.1.1.2) (.inl ⟨by simp [Region.wanted, hg], fun W _ => hy W⟩) h
/-- one alone may come up -/
theorem L.one {f i : Nat} {o : Oper} {listed : Array Bool} {a : Act} {w : World} (hi : ops.toList[i]? = some o) (hb : decide (Region.ready md ops listed = [i]) = true) (hg : o.guard = none)
    (h : stepT P o a w (fun a' w' => (late i = false → C w') ∧ wpAnyL2 P md ops C late Q f (listed.setIfInBounds i true) a' w')) : wpAnyL2 P md ops C late Q (f + 1) listed a w := by
  rw [Array.getElem?_toList] at hi
  have hb := of_decide_eq_true hb
  refine ⟨fun h => (by rw [hb] at h; cases h), fun j hj => ?_⟩
  rw [hb] at hj
  obtain rfl : j = i := by simpa using hj
  unfold goesI
  simp only [hi]
  rw [if_pos (by simp [Region.wanted, hg])]
  exact h
/-- one of two may come up -/
theorem L.two {f i k : Nat} {o o' : Oper} {listed : Array Bool} {a : Act} {w : World} (hi : ops.toList[i]? = some o) (hk : ops.toList[k]? = some o') (hb : decide (Region.ready md ops listed = [i, k]) = true) (hg : o.guard = none) (hg' : o'.guard = none)
    (h : stepT P o a w (fun a' w' => (late i = false → C w') ∧ wpAnyL2 P md ops C late Q f (listed.setIfInBounds i true) a' w'))
    (h' : stepT P o' a w (fun a' w' => (late k = false → C w') ∧ wpAnyL2 P md ops C late Q f (listed.setIfInBounds k true) a' w')) : wpAnyL2 P md ops C late Q (f + 1) listed a w := by
  rw [Array.getElem?_toList] at hi hk
  have hb := of_decide_eq_true hb
  refine ⟨fun h => (by rw [hb] at h; cases h), fun j hj => ?_⟩
  rw [hb] at hj
  have hj' : j = i ∨ j = k := by simpa using hj
  unfold goesI
  rcases hj' with rfl | rfl
  · simp only [hi]
    rw [if_pos (by simp [Region.wanted, hg])]
    exact h
  · simp only [hk]
    rw [if_pos (by simp [Region.wanted, hg'])]
    exact h'
theorem L.done {f : Nat} {listed : Array Bool} {a : Act} {w : World} (hb : (Region.ready md ops listed).isEmpty = true) (h : Q .normal a w) : wpAnyL2 P md ops C late Q f listed a w := by
  have hb := List.isEmpty_iff.1 hb
  cases f with
  | zero => exact ⟨hb, h⟩
  | succ f => exact ⟨fun _ => h, fun i hi => by rw [hb] at hi; cases hi⟩
/-- the region: whatever order the tape picks -/
theorem wp_region_l {id : Nat} {a : Act} {w : World} {l : List Oper} (C : World → Prop) (late : Nat → Bool) (hm : P.follows .mixedOrders = true)
    (h : wpAnyL2 P .any l.toArray C late Q l.toArray.size (Array.replicate l.toArray.size false) a w.drew) : (Code.region id l.toArray true).wp P Q a w :=
  wp_region_any hm (wpAny_of_L _ _ _ _ h)
end
end Go.Proofs.Ytndhbdbfjkmloaa
namespace Go.Proofs.Ytndhbdbfjkmloaa

section
variable {P : Program} {ops : Array Oper} {md : Region.Mode} {C : World → Prop} {late : Nat → Bool} {Q : Exit → Act → World → Prop}
/-- of what is listed all is listed that it waits for -/
def Closed (md : Region.Mode) (ops : Array Oper) (listed : Array Bool) : Prop := ∀ (j : Nat) (oj : Oper), ops[j]? = some oj → listed.getD j false = true → ∀ e ∈ oj.after, Region.binds md e = true → listed.getD e.on false = true
def closedB (md : Region.Mode) (ops : Array Oper) (listed : Array Bool) : Bool := (List.range ops.size).all fun j => match ops[j]? with
  | some oj => !(listed.getD j false) || oj.after.all fun e => !(Region.binds md e) || listed.getD e.on false
  | none => true
theorem closedB_spec {listed : Array Bool} (h : closedB md ops listed = true) : Closed md ops listed := by
  intro j oj hj hl e he hb
  unfold closedB at h
  have h1 := List.all_eq_true.1 h j (List.mem_range.2 (Array.getElem?_eq_some_iff.1 hj).1)
  simp only [hj, hl, Bool.not_true, Bool.false_or] at h1
  have h2 := Array.all_eq_true'.1 h1 e he
  simpa [hb] using h2
/-- does one operation wait for another, maybe through others? -/
def waitsT (md : Region.Mode) (ops : Array Oper) : Nat → Nat → Nat → Bool
  | 0, _, _ => false
  | f + 1, j, i => match ops[j]? with
    | some oj => oj.after.any fun e => Region.binds md e && (e.on == i || waitsT md ops f e.on i)
    | none => false
theorem waitsT_step {f j i : Nat} (h : waitsT md ops (f + 1) j i = true) : ∃ oj, ops[j]? = some oj ∧ ∃ e ∈ oj.after, Region.binds md e = true ∧ (e.on = i ∨ waitsT md ops f e.on i = true) := by
  unfold waitsT at h
  split at h
  · rename_i oj hj
    obtain ⟨e, he, hb⟩ := Array.any_eq_true'.1 h
    simp only [Bool.and_eq_true, Bool.or_eq_true, beq_iff_eq] at hb
    exact ⟨oj, hj, e, he, hb.1, hb.2⟩
  · cases h
theorem waitsT_listed {listed : Array Bool} (hc : Closed md ops listed) : ∀ (f j i : Nat), waitsT md ops f j i = true → listed.getD j false = true → listed.getD i false = true
  | 0, _, _, h, _ => by cases h
  | f + 1, j, i, h, hl => by
    obtain ⟨oj, hj, e, he, hb, h1⟩ := waitsT_step h
    have h2 := hc j oj hj hl e he hb
    rcases h1 with h1 | h1
    · rw [← h1]; exact h2
    · exact waitsT_listed hc f _ _ h1 h2
theorem waitsT_ready {listed : Array Bool} (hc : Closed md ops listed) {f j i : Nat} (h : waitsT md ops f j i = true) (hr : j ∈ Region.ready md ops listed) : listed.getD i false = true := by
  cases f with
  | zero => cases h
  | succ f =>
    obtain ⟨oj, hj, e, he, hb, h1⟩ := waitsT_step h
    obtain ⟨_, o', ho', hall⟩ := mem_ready.1 hr
    rw [hj] at ho'
    injection ho' with ho'
    subst ho'
    have h2 := hall e he hb
    rcases h1 with h1 | h1
    · rw [← h1]; exact h2
    · exact waitsT_listed hc f _ _ h1 h2
/-- a move: it leaves the world as it is -/
def stillB (ops : Array Oper) (j : Nat) : Bool := match ops[j]? with
  | some o => (match o.op with
    | .move _ => true
    | _ => false)
  | none => false
theorem goesI_still {j : Nat} (h : stillB ops j = true) {K : Act → World → Prop} {a : Act} {w : World} (hg : goesI P ops j K a w) : goesI P ops j (fun a' w' => w' = w ∧ K a' w') a w := by
  unfold stillB at h
  unfold goesI at *
  cases ho : ops[j]? with
  | none => rw [ho] at h; cases h
  | some o =>
    rw [ho] at h
    simp only [ho] at hg ⊢
    split
    · rename_i hw
      simp only [hw, if_true] at hg
      cases hop : o.op with
      | move x =>
        unfold stepT at *
        simp only [execOp, hop] at hg ⊢
        exact ⟨by trivial, hg⟩
      | _ => simp [hop] at h
    · rename_i hw
      simp only [hw] at hg
      exact ⟨by trivial, hg⟩
def lateT (md : Region.Mode) (ops : Array Oper) (late : Nat → Bool) (i : Nat) : Bool := (List.range ops.size).all fun j => !late j || waitsT md ops ops.size j i || stillB ops j
theorem lateT_spec {i : Nat} (h : lateT md ops late i = true) {listed : Array Bool} (hc : Closed md ops listed) (hi : listed.getD i true = false) : ∀ j, late j = true → j ∈ Region.ready md ops listed → stillB ops j = true := by
  intro j hj hr
  obtain ⟨_, oj, hoj, _⟩ := mem_ready.1 hr
  unfold lateT at h
  have h1 := List.all_eq_true.1 h j (List.mem_range.2 (Array.getElem?_eq_some_iff.1 hoj).1)
  rw [hj] at h1
  simp only [Bool.not_true, Bool.false_or, Bool.or_eq_true] at h1
  rcases h1 with h1 | h1
  rotate_left
  · exact h1
  have h2 := waitsT_ready hc h1 hr
  rcases Nat.lt_or_ge i listed.size with h' | h'
  · simp [h'] at hi h2; rw [hi] at h2; cases h2
  · simp [Array.getElem?_eq_none h'] at h2
theorem Closed.set {listed : Array Bool} (hc : Closed md ops listed) {j : Nat} (hr : j ∈ Region.ready md ops listed) : Closed md ops (listed.setIfInBounds j true) := by
  intro k ok hk hl e he hb
  by_cases hkj : k = j
  · subst hkj
    obtain ⟨_, o', ho', hall⟩ := mem_ready.1 hr
    rw [hk] at ho'
    injection ho' with ho'
    subst ho'
    exact getD_set_true (hall e he hb)
  · rw [getD_set_ne false (Ne.symm hkj)] at hl
    exact getD_set_true (hc k ok hk hl e he hb)
theorem firstT {i : Nat} {oi : Oper} {v : Value} (hlate : lateT md ops late i = true) (hi : ops[i]? = some oi) (hsel : ∀ (j : Nat) (o : Oper) cs b, ops[j]? = some o → o.op ≠ .select cs b) :
    ∀ (fuel : Nat) (listed : Array Bool) (a : Act) (w : World), C w → Closed md ops listed →
      (∀ j oj, ops[j]? = some oj → j ≠ i → listed.getD j true = false → (∀ e ∈ oj.after, Region.binds md e = true → e.on ≠ i) → oi.apart ops oj = true) →
      i ∈ Region.ready md ops listed → ReadC P ops C oi v a →
      wpAnyL2 P md ops C late Q fuel (listed.setIfInBounds i true) (a.put oi.dst v) w → wpAnyL2 P md ops C late Q (fuel + 1) listed a w := by
  intro fuel
  induction fuel with
  | zero =>
    intro listed a w hC _ _ hr hy H
    refine ⟨fun h => (by rw [h] at hr; cases hr), fun j hj => ?_⟩
    by_cases hji : j = i
    · subst hji; exact hy.goes hi hC ⟨fun _ => hC, H⟩
    · have := ready_mono hj hji
      rw [H.1] at this
      cases this
  | succ fuel ih =>
    intro listed a w hC hcl hfree hr hy H
    refine ⟨fun h => (by rw [h] at hr; cases hr), fun j hj => ?_⟩
    by_cases hji : j = i
    · subst hji; exact hy.goes hi hC ⟨fun _ => hC, H⟩
    · have h1 : goesI P ops j (fun a' w' => (late j = false → C w') ∧ C w' ∧ wpAnyL2 P md ops C late Q fuel ((listed.setIfInBounds i true).setIfInBounds j true) a' w') (a.put oi.dst v) w := by
        have h0 := H.2 j (ready_mono hj hji)
        cases hl : late j with
        | false => rw [hl] at h0; exact goesI.mono (fun a' w' h => ⟨h.1, h.1 rfl, h.2⟩) h0
        | true =>
          have hst := lateT_spec hlate hcl (mem_ready.1 hr).1 j hl hj
          exact goesI.mono (fun a' w' h => ⟨fun h => (by cases h), by rw [h.1]; exact hC, h.2.2⟩) (goesI_still hst h0)
      obtain ⟨hjun, oj, hoj, hall⟩ := mem_ready.1 hj
      have hnot : ∀ e ∈ oj.after, Region.binds md e = true → e.on ≠ i := fun e he hb heq => by
        have h1 := hall e he hb
        have h0 := (mem_ready.1 hr).1
        rw [heq] at h1
        rcases Nat.lt_or_ge i listed.size with h' | h'
        · simp [h'] at h0 h1; rw [h0] at h1; cases h1
        · simp [Array.getElem?_eq_none h'] at h1
      have h2 := goesI_put hoj (hfree j oj hoj hji hjun hnot) (fun cs b => hsel i oi cs b hi) (fun cs b => hsel j oj cs b hoj) hy h1
      have hfree' : ∀ k ok, ops[k]? = some ok → k ≠ i → (listed.setIfInBounds j true).getD k true = false →
          (∀ e ∈ ok.after, Region.binds md e = true → e.on ≠ i) → oi.apart ops ok = true := fun k ok hk hki hun hno => by
        refine hfree k ok hk hki ?_ hno
        by_cases hjk : j = k
        · subst hjk; exact hjun
        · rw [getD_set_ne true hjk] at hun; exact hun
      refine goesI.mono (fun a' w' h3 => ⟨h3.2.1, ih (listed.setIfInBounds j true) a' w' (h3.2.2.1) (hcl.set hj) hfree' (ready_mono hr (Ne.symm hji)) h3.1 ?_⟩) h2
      rw [Array.setIfInBounds_comm _ _ hji]
      exact h3.2.2.2
theorem L.rdt {f i : Nat} {o : Oper} {listed : Array Bool} {a : Act} {w : World} (hi : ops.toList[i]? = some o) (hb : (Region.noSelect ops && (Region.ready md ops listed).contains i && Region.free md ops listed i && lateT md ops late i && closedB md ops listed) = true) (hC : C w) (hg : o.guard = none) {v : Value} (hy : ∀ W, C W → readW P o a W v)
    (h : wpAnyL2 P md ops C late Q f (listed.setIfInBounds i true) (a.put o.dst v) w) : wpAnyL2 P md ops C late Q (f + 1) listed a w := by
  rw [Array.getElem?_toList] at hi
  simp only [Bool.and_eq_true] at hb
  exact firstT hb.1.2 hi (Region.noSelect_spec hb.1.1.1.1) f listed a w hC (closedB_spec hb.2) (Region.free_spec hi hb.1.1.2) (by simpa using hb.1.1.1.2) (.inl ⟨by simp [Region.wanted, hg], hy⟩) h
end
end Go.Proofs.Ytndhbdbfjkmloaa
