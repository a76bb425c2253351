/- (*Parser).node whole; what a parser does, by induction on the fuel. -/
import Derived.Test.YtkmcnekjimobhaaPkW
namespace Go.Proofs.Ytkmcnekjimobhaa
open Go.RowKit Go.Maps

set_option maxRecDepth 100000 in
set_option maxHeartbeats 8000000 in
theorem node_alt {c : PC} (hok : c.Ok) {g : List Rl} {m : Nat} (hT : DoesTry c g m) (a b d1 d2 : Int) (t : ByteArray) (ks : List Ex) (num p : Nat) (σ : PS) (r : Option Nat × PS) (cs : List Value) (w : World)
    (hpk : pk g c.s.data.toList c.hk m (.alt ks (num + 1)) p σ = some r) (hE : ExIs w c.B (.mk 6 a b d1 d2 t ks) cs) (hR : ∀ e ∈ ks, RtW g e) (hnum : num + 1 + nodesAll ks ≤ c.lim) (hp : p ≤ c.s.data.toList.length) (hB : Bound c.s.data.toList.length σ) (h : Par c w σ) :
    Calls Try.prog 111 #[.pointer (some ⟨c.P, 0, none⟩), .agg cs.toArray, .int .i64 num, .int .i64 p] w (Went c w r) := by
  have hsz := h.size
  have hb1 := hok.Bb
  have hb2 := hok.BP
  have hb3 := hok.BM
  obtain ⟨ht, KA, kcp, rfl, hkc, hkm, _⟩ := hE.shape
  unfold exCells
  have hal : Below w.heap.size w (w.alloc (.cells #[.int .i64 6, .int .u64 a, .int .u64 b, .int .u64 d1, .int .u64 d2, .string t, .slice KA ks.length kcp] 37)) := (Below.refl _ _).alloc (Nat.le_refl _) _
  have hpar := h.below hok hal
  have hkp : Keeps c w (w.alloc (.cells #[.int .i64 6, .int .u64 a, .int .u64 b, .int .u64 d1, .int .u64 d2, .string t, .slice KA ks.length kcp] 37)) := Keeps.of_below hal
  have hm8 : ks.length ≤ 9223372036854775807 := by unfold maxLen at hkm; omega
  have hnum' : num + 1 + nodesAll ks ≤ c.lim := hnum
  have hlim := hok.lim
  have HE := Lib.hid hE
  have HT := Lib.hid hT
  have HPK := Lib.hid hpk
  have HRR := Lib.hid hR
  have HB := Lib.hid hB
  have HPP := Lib.hid hp
  clear hE hT hpk hR hB hnum hp
  go_enter Try.func111, Try.ntmps111
  go_wp2
  go_loopw [12, 141] (fun n i wr => ∃ j n' : Nat, ∃ σ' : PS, j ≤ ks.length ∧ i = .int .i64 j ∧ n = .int .i64 n' ∧ n' + nodesAll (ks.drop j) ≤ c.lim ∧ Hid (pk g c.s.data.toList c.hk m (.alt (ks.drop j) n') p σ' = some r) ∧ Hid (Bound c.s.data.toList.length σ') ∧ Par c wr σ' ∧ Keeps c w wr) (fun _ i _ => ks.length - (intOf i).toNat)
  case atStart => exact ⟨0, num + 1, σ, by omega, rfl, by go_num, hnum', HPK, HB, hpar, hkp⟩
  case round =>
    clear hpar hkp h
    obtain ⟨j, n, σ', hj, rfl, rfl, hn, HP, HB', hpar', hk'⟩ := hrel
    have hzr := hk'.size
    by_cases hjk : j < ks.length
    · have hbw : Below c.B w wr := hk'.below (by omega) hb2 hb3 hb1
      obtain ⟨ad, k', a', b', c', d', t', ks', A', cp', rfl, hab, hej, hE', ⟨e0, e1, e2, e3, e4, e5, e6⟩⟩ := (HE.out.on hbw).kid hjk
      have hpk' := HP.out
      rw [drop_of hej] at hpk' hn
      rw [nodesAll] at hn
      cases m with
      | zero => cases hpk'
      | succ m' =>
      simp only [pk] at hpk'
      cases he : pk g c.s.data.toList c.hk m' (.try_ (.mk k' a' b' c' d' t' ks') n) p σ' with
      | none => rw [he] at hpk'; cases hpk'
      | some r1 =>
      obtain ⟨o, σ1⟩ := r1
      rw [he] at hpk'
      have hbd := pk_bound _ _ _ _ _ _ _ _ _ he HPP.out HB'.out
      have hcall := fun W (hW : Below wr.heap.size wr W) => HT.out.le (Nat.le_succ m') _ n p σ' (o, σ1) _ W he (hE'.on (hW.mono (by omega))) (HRR.out _ (List.mem_of_getElem? hej)) (by omega) HPP.out HB'.out (hpar'.below hok hW)
      have hcn := fun W (hW : Below c.B wr W) => count_any _ _ W ((hE'.on hW).keep (by have := hW.size; omega) fun _ _ => rfl) (by omega)
      have HCN := Lib.hid hcn
      have HC := Lib.hid hcall
      have HPQ := Lib.hid hpk'
      have HBD := Lib.hid hbd
      clear hcn hcall hpk' hbd he hej hE' hpar'
      go_wp2_with fail
      refine (HC.out _ (by repeat (first | exact Below.refl _ _ | assumption | refine Below.drew ?_ | refine below_drewN ?_ _ | refine Below.alloc ?_ (by first | omega | (simp; omega) | simp) _ | refine Below.setCell ?_ (by first | omega | (simp; omega) | simp) _))).mono ?_
      rintro e' w2 ⟨⟨z, rfl, hz⟩, h1, h2⟩
      have hbx : Blk w2 wr.heap.size 37 #[.int .i64 k', .int .u64 a', .int .u64 b', .int .u64 c', .int .u64 d', .string t', .slice A' ks'.length cp'] := h2.box (blk_at rfl) (by decide) (by have := hok.P; omega) (by have := hok.M; omega)
      have hk2 : Keeps c w w2 := (hk'.alloc _).trans h2
      cases o with
      | some q =>
        have hr : r = (some q, σ1) := by have := HPQ.out; simp only [Option.some.injEq] at this; exact this.symm
        obtain rfl := hz q rfl
        subst hr
        go_wp2
        go_ret2
        exact ⟨⟨q, rfl, fun y ht => by injection ht with ht; rw [ht]⟩, h1, hk2⟩
      | none =>
        have x0 : w2.cell? ⟨wr.heap.size, 0, none⟩ = some (.int .i64 k') := hbx.cell 0; have x1 : w2.cell? ⟨wr.heap.size, 1, none⟩ = some (.int .u64 a') := hbx.cell 1; have x2 : w2.cell? ⟨wr.heap.size, 2, none⟩ = some (.int .u64 b') := hbx.cell 2; have x3 : w2.cell? ⟨wr.heap.size, 3, none⟩ = some (.int .u64 c') := hbx.cell 3; have x4 : w2.cell? ⟨wr.heap.size, 4, none⟩ = some (.int .u64 d') := hbx.cell 4; have x5 : w2.cell? ⟨wr.heap.size, 5, none⟩ = some (.string t') := hbx.cell 5; have x6 : w2.cell? ⟨wr.heap.size, 6, none⟩ = some (.slice A' ks'.length cp') := hbx.cell 6
        have hbw2 : Below c.B wr w2 := ((Below.refl _ _).alloc (by omega) _).trans (h2.below (by simp; omega) hb2 hb3 hb1)
        go_wp2_with fail
        refine (HCN.out w2 hbw2).mono ?_
        rintro e' w3 ⟨rfl, hb3'⟩
        go_wp2
        go_roundw
        case rel => exact ⟨j + 1, n + nodes (.mk k' a' b' c' d' t' ks'), σ1, by omega, by go_num, by go_num, by omega, Lib.hid (pk_le HPQ.out (Nat.le_succ _)), Lib.hid HBD.out.2, h1.below hok hb3', hk2.trans (Keeps.of_below hb3')⟩
        case measure => simp [intOf]; omega
    · obtain rfl : j = ks.length := by omega
      have hpk' := HP.out
      rw [List.drop_length] at hpk'
      have hr : r = (none, σ') := by
        cases m with
        | zero => cases hpk'
        | succ m' => simp only [pk, Option.some.injEq] at hpk'; exact hpk'.symm
      subst hr
      go_wp2
      go_ret2
      exact ⟨⟨0, rfl, fun y ht => by cases ht⟩, hpar', hk'⟩

set_option maxRecDepth 100000 in
set_option maxHeartbeats 4000000 in
theorem node_seq {c : PC} (hok : c.Ok) {g : List Rl} {m : Nat} (hT : DoesTry c g m) (a b d1 d2 : Int) (t : ByteArray) (ks : List Ex) (num p : Nat) (σ : PS) (r : Option Nat × PS) (cs : List Value) (w : World)
    (hpk : pk g c.s.data.toList c.hk m (.seq ks (num + 1)) p σ = some r) (hE : ExIs w c.B (.mk 5 a b d1 d2 t ks) cs) (hR : ∀ e ∈ ks, RtW g e) (hnum : num + 1 + nodesAll ks ≤ c.lim) (hp : p ≤ c.s.data.toList.length) (hB : Bound c.s.data.toList.length σ) (h : Par c w σ) :
    Calls Try.prog 111 #[.pointer (some ⟨c.P, 0, none⟩), .agg cs.toArray, .int .i64 num, .int .i64 p] w (Went c w r) := by
  have hsz := h.size
  have hb1 := hok.Bb
  obtain ⟨ht, KA, kcp, rfl, hkc, hkm, _⟩ := hE.shape
  have hal : Below w.heap.size w (w.alloc (.cells #[.int .i64 5, .int .u64 a, .int .u64 b, .int .u64 d1, .int .u64 d2, .string t, .slice KA ks.length kcp] 37)) := (Below.refl _ _).alloc (Nat.le_refl _) _
  have hc := seq_any hok hT 5 a b d1 d2 t ks num p σ r _ _ hpk (hE.on (hal.mono (by omega))) hR hnum hp hB (h.below hok hal)
  have hk := Keeps.of_below (c := c) hal
  unfold exCells at hc ⊢
  have HC := Lib.hid hc
  have HK := Lib.hid hk
  clear hc hE hpk hR hnum hB hT hk
  go_enter Try.func111, Try.ntmps111
  go_wp2_with fail
  refine HC.out.mono ?_
  rintro e' w2 ⟨⟨z, rfl, hz⟩, h1, h2⟩
  go_wp2
  go_ret2
  exact ⟨⟨z, rfl, hz⟩, h1, HK.out.trans h2⟩

set_option maxRecDepth 100000 in
set_option maxHeartbeats 4000000 in
theorem node_one {c : PC} (hok : c.Ok) {g : List Rl} {m : Nat} (hT : DoesTry c g m) (k a b d1 d2 : Int) (t : ByteArray) (e : Ex) (num p : Nat) (σ : PS) (r : Option Nat × PS) (cs : List Value) (w : World) (h7 : 7 ≤ k) (h11 : k ≤ 11)
    (hpk : pk g c.s.data.toList c.hk m (.one k e num) p σ = some r) (hE : ExIs w c.B (.mk k a b d1 d2 t [e]) cs) (hR : RtW g e) (hnum : num + 1 + nodes e ≤ c.lim) (hp : p ≤ c.s.data.toList.length) (hB : Bound c.s.data.toList.length σ) (h : Par c w σ) :
    Calls Try.prog 111 #[.pointer (some ⟨c.P, 0, none⟩), .agg cs.toArray, .int .i64 num, .int .i64 p] w (Went c w r) := by
  have hsz := h.size
  have hb1 := hok.Bb
  obtain ⟨ht, KA, kcp, rfl, hkc, hkm, _⟩ := hE.shape
  have hal : Below w.heap.size w (w.alloc (.cells #[.int .i64 k, .int .u64 a, .int .u64 b, .int .u64 d1, .int .u64 d2, .string t, .slice KA 1 kcp] 37)) := (Below.refl _ _).alloc (Nat.le_refl _) _
  have hc := single_any hok hT k a b d1 d2 t e num p σ r _ _ h7 h11 hpk (hE.on (hal.mono (by omega))) hR hnum hp hB (h.below hok hal)
  have hk := Keeps.of_below (c := c) hal
  unfold exCells at hc ⊢
  have hkl : ([e] : List Ex).length = 1 := rfl
  rw [hkl] at hc ⊢
  have HC := Lib.hid hc
  have HK := Lib.hid hk
  have z1 : (k == 1) = false := by rw [beq_eq_false_iff_ne]; omega
  have z2 : (k == 2) = false := by rw [beq_eq_false_iff_ne]; omega
  have z3 : (k == 3) = false := by rw [beq_eq_false_iff_ne]; omega
  have z4 : (k == 4) = false := by rw [beq_eq_false_iff_ne]; omega
  have z5 : (k == 5) = false := by rw [beq_eq_false_iff_ne]; omega
  have z6 : (k == 6) = false := by rw [beq_eq_false_iff_ne]; omega
  clear hc hE hpk hR hnum hB hT hk h7 h11
  go_enter Try.func111, Try.ntmps111
  go_wp2_with fail
  refine HC.out.mono ?_
  rintro e' w2 ⟨⟨z, rfl, hz⟩, h1, h2⟩
  go_wp2
  go_ret2
  exact ⟨⟨z, rfl, hz⟩, h1, HK.out.trans h2⟩
end Go.Proofs.Ytkmcnekjimobhaa
