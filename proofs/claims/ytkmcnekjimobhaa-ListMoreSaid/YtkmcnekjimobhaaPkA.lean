/- pack.At, pack.Run: what they answer. -/
import Derived.Test.YtkmcnekjimobhaaPkN
namespace Go.Proofs.Ytkmcnekjimobhaa
open Go.RowKit Go.Maps

/-- it comes to this -/
def Sem (g : List Rl) (s : List UInt8) (e : Ex) (p : Nat) (o : Option Nat) : Prop := ∃ n, ev g s n e p = some o
theorem Sem.eq {g : List Rl} {s : List UInt8} {e : Ex} {p : Nat} {o o' : Option Nat} (h : Sem g s e p o) (h' : Sem g s e p o') : o = o' := by
  obtain ⟨n, h⟩ := h
  obtain ⟨m, h'⟩ := h'
  exact ev_eq h h'

theorem agree0 (g : List Rl) (s : List UInt8) : Agree g s ps0 := fun i p o h => by cases h
theorem bound0 (L : Nat) : Bound L ps0 := fun i p n h => by cases h
/-- a rule of a grammar that is well comes to what it means -/
theorem rule_goes {g : List Rl} (W : WellG g) (s : List UInt8) {i p : Nat} {r : Rl} (hr : g[i]? = some r) (hp : p ≤ s.length) : ∃ o m σ1, Sem g s r.2 p o ∧ pk g s false m (.rule i) p ps0 = some (o, σ1) ∧ Agree g s σ1 := by
  obtain ⟨n, o, he⟩ := ends (s := s) W hp (W.good (List.mem_of_getElem? hr))
  obtain ⟨m, σ1, h1, h2, _⟩ := goes_rule (hook := false) (fits_of W.right) hp hr he (fun n0 _ o ho σ num hσ => (goes (fits_of W.right) n0).1 r.2 p o (W.right.rt r (List.mem_of_getElem? hr)) hp ho σ num hσ) (agree0 g s)
  exact ⟨o, m, σ1, ⟨n, he⟩, h1, h2⟩

theorem look_zero {g : List Rl} {s : ByteArray} (h : lookG g s = 0) : WellG g ∧ s.size ≤ 60 := by
  unfold lookG at h
  split at h
  · rename_i hc; exact absurd h hc
  rename_i hc
  split at h
  · simp at h
  · exact ⟨well_of (by simpa using hc), by omega⟩
theorem sixty_of {g : List Rl} (R : RightG g) : ∀ r ∈ g, nodes r.2 ≤ 60 := fun r hr => nodes_le (R.body r hr)
/-- a parser made of a grammar that is well is fit -/
theorem PC.fit {c : PC} (W : WellG c.g) (h60 : c.s.size ≤ 60) (hok : c.Ok) (hk : c.hk = false) (hl : c.lim = 1000000000000) (hh : c.hook = .nilFunc) (hwf : ∀ r ∈ c.g, WfE r.2) : c.Fit :=
  ⟨hok, .inl ⟨hk, hh⟩, by have := W.right.ten; omega, by rw [show c.s.data.toList.length = c.s.size from size_list _]; omega, fun r hr => ⟨W.right.rt r hr, hwf r hr⟩, fun i r hr => by
    have h1 := firstN_le (sixty_of W.right) i
    have h2 := (sixty_of W.right) r (List.mem_of_getElem? hr)
    have h3 := getElem?_lt hr
    have h4 := W.right.ten
    omega⟩

/-- what At answers: an outcome, a number -/
def AtR (g : List Rl) (i : Int) (s : ByteArray) (p : Int) (v : Option Nat) (x : Int) : Prop :=
  (lookG g s ≠ 0 ∧ v = none ∧ x = lookG g s) ∨ (lookG g s = 0 ∧ (i < 0 ∨ (g.length : Int) ≤ i ∨ p < 0 ∨ (s.size : Int) < p) ∧ v = none ∧ x = 1) ∨
  (lookG g s = 0 ∧ ∃ (j q : Nat) (r : Rl) (o : Option Nat), i = j ∧ p = q ∧ q ≤ s.size ∧ g[j]? = some r ∧ Sem g s.data.toList r.2 q o ∧ v = o.map (· - q) ∧ x = 0)
def AtQ (g : List Rl) (i : Int) (s : ByteArray) (p : Int) (w : World) (e : Ending) (w' : World) : Prop := ∃ v x, AtR g i s p v x ∧ e = .returned (.tuple #[outV v, .int .i64 x]) ∧ Below w.heap.size w w'

set_option maxRecDepth 100000 in
set_option maxHeartbeats 8000000 in
theorem at_any {g : List Rl} {A : Option Addr} {cp : Nat} {row : Nat → List Value} {w : World} (h : GrIs w w.heap.size g A cp row) (hwf : ∀ r ∈ g, WfE r.2) (i : Int) (s : ByteArray) (p : Int) :
    Calls Try.prog 21 #[.agg #[.slice A g.length cp], .int .i64 i, .string s, .int .i64 p] w (AtQ g i s p w) := by
  have hlk := fun W (hW : Below w.heap.size w W) => mlook_any ((h.on hW).more hW.size) s
  have HLK := Lib.hid hlk
  have HG := Lib.hid h
  have HWF := Lib.hid hwf
  clear hlk h hwf
  by_cases hl0 : lookG g s = 0
  · obtain ⟨W, h60⟩ := look_zero hl0
    rw [hl0] at HLK
    have HL0 := Lib.hid hl0
    have HW := Lib.hid W
    have h10 := W.right.ten
    clear hl0 W
    by_cases hbad : i < 0 ∨ (g.length : Int) ≤ i ∨ p < 0 ∨ (s.size : Int) < p
    · have HR : Hid (AtR g i s p none 1) := .inr (.inl ⟨HL0.out, hbad, rfl, rfl⟩)
      have h4 : i < 0 ∨ (¬ i < 0 ∧ (g.length : Int) ≤ i) ∨ (¬ i < 0 ∧ ¬ (g.length : Int) ≤ i ∧ p < 0) ∨ (¬ i < 0 ∧ ¬ (g.length : Int) ≤ i ∧ ¬ p < 0 ∧ (s.size : Int) < p) := by omega
      clear hbad
      rcases h4 with h1 | ⟨h1, h2⟩ | ⟨h1, h2, h3⟩ | ⟨h1, h2, h3, h4⟩
      all_goals
        go_enter Try.func21, Try.ntmps21
        go_wp2_with fail
        refine (HLK.out _ (by repeat (first | exact Below.refl _ _ | assumption | refine Below.drew ?_ | refine below_drewN ?_ _ | refine Below.alloc ?_ (by first | omega | (simp; omega) | simp) _ | refine Below.setCell ?_ (by first | omega | (simp; omega) | simp) _))).mono ?_
        rintro e w1 ⟨rfl, hb1⟩
        have hw1 : Below w.heap.size w w1 := (((Below.refl _ w).alloc (Nat.le_refl _) _).alloc (by simp) _).trans (hb1.mono (by simp; omega))
        have hgx : Blk w1 w.heap.size 24 #[.slice A g.length cp] := ((blk_at rfl).alloc _).below hb1 (by simp; omega)
        have hox : Blk w1 (w.heap.size + 1) 41 #[.bool false, .int .i64 0] := (blk_at (by simp)).below hb1 (by simp)
        have g0 : w1.cell? ⟨w.heap.size, 0, none⟩ = some (.slice A g.length cp) := hgx.cell 0
        have yz0 : w1.cell? ⟨w.heap.size + 1, 0, none⟩ = some (.bool false) := hox.cell 0; have yz1 : w1.cell? ⟨w.heap.size + 1, 1, none⟩ = some (.int .i64 0) := hox.cell 1; have yf0 := hox.frozen 0; have yf1 := hox.frozen 1; have ye0 : (w1.setCell ⟨w.heap.size + 1, 0, none⟩ (.bool false)).cell? ⟨w.heap.size + 1, 0, none⟩ = some (.bool false) := (hox.set_ 0 _).cell 0; have ye1 : ((w1.setCell ⟨w.heap.size + 1, 0, none⟩ (.bool false)).setCell ⟨w.heap.size + 1, 1, none⟩ (.int .i64 0)).cell? ⟨w.heap.size + 1, 1, none⟩ = some (.int .i64 0) := ((hox.set_ 0 _).set_ 1 _).cell 1
        have hzw := hw1.size
        clear hb1
        go_wp2
        exact bodyPost_ret (v := .tuple #[.agg #[.bool false, .int .i64 0], .int .i64 1]) (by simp [results, Try.results21, go_sem, ye0, ye1]) rfl ⟨none, 1, HR.out, rfl, (by repeat (first | exact Below.refl _ _ | assumption | refine Below.drew ?_ | refine below_drewN ?_ _ | refine Below.alloc ?_ (by first | omega | (simp; omega) | simp) _ | refine Below.setCell ?_ (by first | omega | (simp; omega) | simp) _))⟩
    · obtain ⟨j, hj⟩ := Int.eq_ofNat_of_zero_le (show 0 ≤ i by omega)
      obtain ⟨q, hq⟩ := Int.eq_ofNat_of_zero_le (show 0 ≤ p by omega)
      subst hj hq
      have hjl : j < g.length := by omega
      have hqs : q ≤ s.size := by omega
      have h1 : ¬ ((j : Int) < 0) := by omega
      have h2 : ¬ ((g.length : Int) ≤ (j : Int)) := by omega
      have h3 : ¬ ((q : Int) < 0) := by omega
      have h4 : ¬ ((s.size : Int) < (q : Int)) := by omega
      clear hbad
      obtain ⟨r, hr⟩ : ∃ r, g[j]? = some r := ⟨_, List.getElem?_eq_getElem hjl⟩
      have hsl : s.data.toList.length = s.size := size_list s
      obtain ⟨o, m, σ1, hsem, hpk, _⟩ := rule_goes HW.out s.data.toList hr (by rw [hsl]; exact hqs)
      have HR : Hid (AtR g j s q (o.map (· - q)) 0) := .inr (.inr ⟨HL0.out, j, q, r, o, rfl, rfl, hqs, hr, hsem, rfl, rfl⟩)
      have hnew := fun W (hW : Below w.heap.size w W) => new_any ((HG.out.on hW).more hW.size) (by omega) h10 (sixty_of HW.out.right) s
      have HN := Lib.hid hnew
      have HPK := Lib.hid hpk
      clear hnew hpk hsem hr
      go_enter Try.func21, Try.ntmps21
      go_wp2_with fail
      refine (HLK.out _ (by repeat (first | exact Below.refl _ _ | assumption | refine Below.drew ?_ | refine below_drewN ?_ _ | refine Below.alloc ?_ (by first | omega | (simp; omega) | simp) _ | refine Below.setCell ?_ (by first | omega | (simp; omega) | simp) _))).mono ?_
      rintro e w1 ⟨rfl, hb1⟩
      have hw1 : Below w.heap.size w w1 := (((Below.refl _ w).alloc (Nat.le_refl _) _).alloc (by simp) _).trans (hb1.mono (by simp; omega))
      have hgx : Blk w1 w.heap.size 24 #[.slice A g.length cp] := ((blk_at rfl).alloc _).below hb1 (by simp; omega)
      have hox : Blk w1 (w.heap.size + 1) 41 #[.bool false, .int .i64 0] := (blk_at (by simp)).below hb1 (by simp)
      have g0 : w1.cell? ⟨w.heap.size, 0, none⟩ = some (.slice A g.length cp) := hgx.cell 0
      clear hb1
      go_wp2_with fail
      refine (HN.out _ hw1).mono ?_
      rintro e w2 ⟨c, hcg, hcs, hch, ⟨hhk, hlm, -⟩, rfl, hok, hpar, hb2, hcB⟩
      have hw2 : Below w.heap.size w w2 := hw1.trans (hb2.mono hw1.size)
      have hox2 := hox.below hb2 hox.lt
      have F : c.Fit := PC.fit (by rw [hcg]; exact HW.out) (by rw [hcs]; exact h60) hok hhk hlm hch (by rw [hcg]; exact HWF.out)
      have hru := (does F m).2.2 j q ps0 (o, σ1) w2 (by rw [hcg, hcs, hhk]; exact HPK.out) (by rw [hcg]; exact hjl) (by rw [hcs, hsl]; exact hqs) (bound0 _) hpar
      have HRU := Lib.hid hru
      have hzw := hw1.size
      have hxl := hox.lt
      have hBP := hok.BP
      have hBM := hok.BM
      have hBb := hok.Bb
      have hPs := hpar.size
      clear hru hb2
      go_wp2_with fail
      refine HRU.out.mono ?_
      rintro e w3 ⟨⟨v, rfl, hv⟩, q1, q2⟩
      obtain ⟨b, n, hbn⟩ : ∃ (b : Bool) (n : Int), outV v = .agg #[.bool b, .int .i64 n] := by cases v <;> exact ⟨_, _, rfl⟩
      have hvo : v = o.map (· - q) := by
        simp only at hv
        rw [hv]
        cases v with
        | none => rfl
        | some k => simp only [Option.map_some, Option.some.injEq]; omega
      rw [← hvo] at HR
      have hox3 : Blk w3 (w.heap.size + 1) 41 #[.bool false, .int .i64 0] := q2.box hox2 (by decide) (by omega) (by omega)
      have hw3 : Below w.heap.size w w3 := hw2.trans (q2.below (by have := hw2.size; omega) (by omega) (by omega) (by omega))
      have yz0 : w3.cell? ⟨w.heap.size + 1, 0, none⟩ = some (.bool false) := hox3.cell 0; have yz1 : w3.cell? ⟨w.heap.size + 1, 1, none⟩ = some (.int .i64 0) := hox3.cell 1; have yf0 := hox3.frozen 0; have yf1 := hox3.frozen 1; have ye0 : (w3.setCell ⟨w.heap.size + 1, 0, none⟩ (.bool b)).cell? ⟨w.heap.size + 1, 0, none⟩ = some (.bool b) := (hox3.set_ 0 _).cell 0; have ye1 : ((w3.setCell ⟨w.heap.size + 1, 0, none⟩ (.bool b)).setCell ⟨w.heap.size + 1, 1, none⟩ (.int .i64 n)).cell? ⟨w.heap.size + 1, 1, none⟩ = some (.int .i64 n) := ((hox3.set_ 0 _).set_ 1 _).cell 1
      rw [hbn]
      clear q1 q2 HRU hpar hok F
      go_wp2
      exact bodyPost_ret (v := .tuple #[.agg #[.bool b, .int .i64 n], .int .i64 0]) (by simp [results, Try.results21, go_sem, ye0, ye1]) rfl ⟨v, 0, HR.out, by rw [hbn], (by repeat (first | exact Below.refl _ _ | assumption | refine Below.drew ?_ | refine below_drewN ?_ _ | refine Below.alloc ?_ (by first | omega | (simp; omega) | simp) _ | refine Below.setCell ?_ (by first | omega | (simp; omega) | simp) _))⟩
  · have hxb : (lookG g s != 0) = true := by rw [bne_iff_ne]; exact hl0
    have HR : Hid (AtR g i s p none (lookG g s)) := .inl ⟨hl0, rfl, rfl⟩
    clear hl0
    generalize lookG g s = x at hxb HLK HR
    go_enter Try.func21, Try.ntmps21
    go_wp2_with fail
    refine (HLK.out _ (by repeat (first | exact Below.refl _ _ | assumption | refine Below.drew ?_ | refine below_drewN ?_ _ | refine Below.alloc ?_ (by first | omega | (simp; omega) | simp) _ | refine Below.setCell ?_ (by first | omega | (simp; omega) | simp) _))).mono ?_
    rintro e w1 ⟨rfl, hb1⟩
    have hw1 : Below w.heap.size w w1 := (((Below.refl _ w).alloc (Nat.le_refl _) _).alloc (by simp) _).trans (hb1.mono (by simp; omega))
    have hox : Blk w1 (w.heap.size + 1) 41 #[.bool false, .int .i64 0] := (blk_at (by simp)).below hb1 (by simp)
    have yz0 : w1.cell? ⟨w.heap.size + 1, 0, none⟩ = some (.bool false) := hox.cell 0; have yz1 : w1.cell? ⟨w.heap.size + 1, 1, none⟩ = some (.int .i64 0) := hox.cell 1; have yf0 := hox.frozen 0; have yf1 := hox.frozen 1; have ye0 : (w1.setCell ⟨w.heap.size + 1, 0, none⟩ (.bool false)).cell? ⟨w.heap.size + 1, 0, none⟩ = some (.bool false) := (hox.set_ 0 _).cell 0; have ye1 : ((w1.setCell ⟨w.heap.size + 1, 0, none⟩ (.bool false)).setCell ⟨w.heap.size + 1, 1, none⟩ (.int .i64 0)).cell? ⟨w.heap.size + 1, 1, none⟩ = some (.int .i64 0) := ((hox.set_ 0 _).set_ 1 _).cell 1
    have hzw := hw1.size
    clear hb1
    go_wp2
    exact bodyPost_ret (v := .tuple #[.agg #[.bool false, .int .i64 0], .int .i64 x]) (by simp [results, Try.results21, go_sem, ye0, ye1]) rfl ⟨none, x, HR.out, rfl, (by repeat (first | exact Below.refl _ _ | assumption | refine Below.drew ?_ | refine below_drewN ?_ _ | refine Below.alloc ?_ (by first | omega | (simp; omega) | simp) _ | refine Below.setCell ?_ (by first | omega | (simp; omega) | simp) _))⟩
end Go.Proofs.Ytkmcnekjimobhaa
