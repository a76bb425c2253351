/- (*Parser).seq. (*Parser).single: what has one kid. strings.HasPrefix; how much of a literal stands at a place. (*Parser).node: what has no kids. -/
import Derived.Test.YtndhbdbfjkmloaaJTopTree8
import Derived.Lib.Strings
namespace Go.Proofs.Ytndhbdbfjkmloaa
open Go.RowKit Go.Maps

set_option maxRecDepth 100000 in
set_option maxHeartbeats 8000000 in
theorem seq_any {c : PC} (hok : c.Ok) {g : List Rl} {m : Nat} (hT : DoesTry c g m) (k a b d1 d2 : Int) (t : ByteArray) (ks : List Ex) (num p : Nat) (σ : PS) (r : Option Nat × PS) (cs : List Value) (w : World)
    (hpk : pk g c.s.data.toList c.hk m (.seq ks (num + 1)) p σ = some r) (hE : ExIs w c.B (.mk k a b d1 d2 t ks) cs) (hR : ∀ e ∈ ks, RtW g e) (hnum : num + 1 + nodesAll ks ≤ c.lim) (hp : p ≤ c.s.data.toList.length) (hB : Bound c.s.data.toList.length σ) (h : Par c w σ) :
    Calls Try.prog 72 #[.pointer (some ⟨c.P, 0, none⟩), .agg cs.toArray, .int .i64 num, .int .i64 p] w (Went c w r) := by
  have hsz := h.size
  have hb1 := hok.Bb
  have hb2 := hok.BP
  have hb3 := hok.BM
  obtain ⟨ht, KA, kcp, rfl, hkc, hkm, _⟩ := hE.shape
  unfold exCells
  have hal : Below w.heap.size w (w.alloc (.cells #[.int .i64 k, .int .u64 a, .int .u64 b, .int .u64 d1, .int .u64 d2, .string t, .slice KA ks.length kcp] 27)) := (Below.refl _ _).alloc (Nat.le_refl _) _
  have hpar := h.below hok hal
  have hkp : Keeps c w (w.alloc (.cells #[.int .i64 k, .int .u64 a, .int .u64 b, .int .u64 d1, .int .u64 d2, .string t, .slice KA ks.length kcp] 27)) := Keeps.of_below hal
  have hm8 : ks.length ≤ 9223372036854775807 := by unfold maxLen at hkm; omega
  have hnum' : num + 1 + nodesAll ks ≤ c.lim := hnum
  have hlim := hok.lim
  have HE := Lib.hid hE
  have HT := Lib.hid hT
  have HPK := Lib.hid hpk
  have HRR := Lib.hid hR
  have HB := Lib.hid hB
  clear hE hT hpk hR hB hnum
  go_enter Try.func72, Try.ntmps72
  go_wp2
  go_loopw [3, 10, 20] (fun q n i wr => ∃ j q' n' : Nat, ∃ σ' : PS, j ≤ ks.length ∧ i = .int .i64 j ∧ q = .int .i64 q' ∧ n = .int .i64 n' ∧ n' + nodesAll (ks.drop j) ≤ c.lim ∧ q' ≤ c.s.data.toList.length ∧ Hid (pk g c.s.data.toList c.hk m (.seq (ks.drop j) n') q' σ' = some r) ∧ Hid (Bound c.s.data.toList.length σ') ∧ Par c wr σ' ∧ Keeps c w wr) (fun _ _ i _ => ks.length - (intOf i).toNat)
  case atStart => exact ⟨0, p, num + 1, σ, by omega, rfl, rfl, by go_num, hnum', hp, HPK, HB, hpar, hkp⟩
  case round =>
    clear hpar hkp h hp
    obtain ⟨j, q, n, σ', hj, rfl, rfl, rfl, hn, hq, HP, HB', hpar', hk'⟩ := hrel
    have hzr := hk'.size
    by_cases hjk : j < ks.length
    · have hbw : Below c.B w wr := hk'.below (by omega) hb2 hb3 hb1
      obtain ⟨ad, k', a', b', c', d', t', ks', A', cp', rfl, hab, hej, hE', ⟨e0, e1, e2, e3, e4, e5, e6⟩⟩ := (HE.out.on hbw).kid hjk
      have hpk' := HP.out
      rw [drop_of hej] at hpk' hn
      rw [nodesAll] at hn
      cases m with
      | zero => cases hpk'
      | succ m' =>
      simp only [pk] at hpk'
      cases he : pk g c.s.data.toList c.hk m' (.try_ (.mk k' a' b' c' d' t' ks') n) q σ' with
      | none => rw [he] at hpk'; cases hpk'
      | some r1 =>
      obtain ⟨o, σ1⟩ := r1
      rw [he] at hpk'
      have hbd := pk_bound _ _ _ _ _ _ _ _ _ he hq HB'.out
      have hcall := fun W (hW : Below wr.heap.size wr W) => HT.out.le (Nat.le_succ m') _ n q σ' (o, σ1) _ W he (hE'.on (hW.mono (by omega))) (HRR.out _ (List.mem_of_getElem? hej)) (by omega) hq HB'.out (hpar'.below hok hW)
      have hcn := fun W (hW : Below c.B wr W) => countK_any _ _ W ((hE'.on hW).keep (by have := hW.size; omega) fun _ _ => rfl) (by omega)
      have HCN := Lib.hid hcn
      have HC := Lib.hid hcall
      have HPQ := Lib.hid hpk'
      have HBD := Lib.hid hbd
      clear hcn hcall hpk' hbd he hej hE' hpar'
      go_wp2_with fail
      refine (HC.out _ (by repeat (first | exact Below.refl _ _ | assumption | refine Below.drew ?_ | refine below_drewN ?_ _ | refine Below.alloc ?_ (by first | omega | (simp; omega) | simp) _ | refine Below.setCell ?_ (by first | omega | (simp; omega) | simp) _))).mono ?_
      rintro e' w2 ⟨⟨z, rfl, hz⟩, h1, h2⟩
      have hbx : Blk w2 wr.heap.size 27 #[.int .i64 k', .int .u64 a', .int .u64 b', .int .u64 c', .int .u64 d', .string t', .slice A' ks'.length cp'] := h2.box (blk_at rfl) (by decide) (by have := hok.P; omega) (by have := hok.M; omega)
      have hk2 : Keeps c w w2 := (hk'.alloc _).trans h2
      cases o with
      | none =>
        have hr : r = (none, σ1) := by have := HPQ.out; simp only [Option.some.injEq] at this; exact this.symm
        subst hr
        go_wp2
        go_ret2
        exact ⟨⟨0, rfl, fun to ht => by cases ht⟩, h1, hk2⟩
      | some to =>
        obtain rfl := hz to rfl
        have x0 : w2.cell? ⟨wr.heap.size, 0, none⟩ = some (.int .i64 k') := hbx.cell 0; have x1 : w2.cell? ⟨wr.heap.size, 1, none⟩ = some (.int .u64 a') := hbx.cell 1; have x2 : w2.cell? ⟨wr.heap.size, 2, none⟩ = some (.int .u64 b') := hbx.cell 2; have x3 : w2.cell? ⟨wr.heap.size, 3, none⟩ = some (.int .u64 c') := hbx.cell 3; have x4 : w2.cell? ⟨wr.heap.size, 4, none⟩ = some (.int .u64 d') := hbx.cell 4; have x5 : w2.cell? ⟨wr.heap.size, 5, none⟩ = some (.string t') := hbx.cell 5; have x6 : w2.cell? ⟨wr.heap.size, 6, none⟩ = some (.slice A' ks'.length cp') := hbx.cell 6
        have hbw2 : Below c.B wr w2 := ((Below.refl _ _).alloc (by omega) _).trans (h2.below (by simp; omega) hb2 hb3 hb1)
        go_wp2_with fail
        refine (HCN.out w2 hbw2).mono ?_
        rintro e' w3 ⟨rfl, hb3'⟩
        go_wp2
        go_roundw
        case rel => exact ⟨j + 1, to, n + nodes (.mk k' a' b' c' d' t' ks'), σ1, by omega, by go_num, rfl, by go_num, by omega, HBD.out.1 to rfl, Lib.hid (pk_le HPQ.out (Nat.le_succ _)), Lib.hid HBD.out.2, h1.below hok hb3', hk2.trans (Keeps.of_below hb3')⟩
        case measure => simp [intOf]; omega
    · obtain rfl : j = ks.length := by omega
      have hpk' := HP.out
      rw [List.drop_length] at hpk'
      have hr : r = (some q, σ') := by
        cases m with
        | zero => cases hpk'
        | succ m' => simp only [pk, Option.some.injEq] at hpk'; exact hpk'.symm
      subst hr
      go_wp2
      go_ret2
      exact ⟨⟨q, rfl, fun to ht => by injection ht with ht; rw [ht]⟩, hpar', hk'⟩
end Go.Proofs.Ytndhbdbfjkmloaa
namespace Go.Proofs.Ytndhbdbfjkmloaa
open Go.RowKit Go.Maps

/-- the least number of which something is so -/
noncomputable def leastN (p : Nat → Prop) : Nat := @ite _ (∃ n, p n ∧ ∀ k, p k → n ≤ k) (Classical.propDecidable _) (Classical.epsilon fun n => p n ∧ ∀ k, p k → n ≤ k) 0
theorem leastN_spec {p : Nat → Prop} (h : ∃ n, p n) : p (leastN p) ∧ ∀ k, p k → leastN p ≤ k := by
  have hm : ∃ n, p n ∧ ∀ k, p k → n ≤ k := by
    obtain ⟨n, hn⟩ := h
    induction n using Nat.strongRecOn with
    | _ n ih =>
      by_cases hk : ∃ k, k < n ∧ p k
      · obtain ⟨k, hk, hp⟩ := hk
        exact ih k hk hp
      · exact ⟨n, hn, fun k hp => Nat.le_of_not_lt fun h => hk ⟨k, h, hp⟩⟩
  unfold leastN
  rw [if_pos hm]
  exact Classical.epsilon_spec hm

/-- again and again: where it stands, with so much fuel -/
structure RepI (c : PC) (g : List Rl) (e : Ex) (num m : Nat) (r : Option Nat × PS) (w : World) (bk : Nat) (bc : Array Value) (f : Nat) (q : Nat) (σ' : PS) (wr : World) : Prop where
  le : f ≤ m
  pk : Hid (pk g c.s.data.toList c.hk f (.rep e num) q σ' = some r)
  pos : q ≤ c.s.data.toList.length
  bound : Bound c.s.data.toList.length σ'
  par : Par c wr σ'
  keeps : Keeps c w wr
  box : Blk wr bk 27 bc
def RepR (c : PC) (g : List Rl) (e : Ex) (num m : Nat) (r : Option Nat × PS) (w : World) (bk : Nat) (bc : Array Value) (v : Value) (wr : World) (f : Nat) : Prop := ∃ (q : Nat) (σ' : PS), v = .int .i64 q ∧ RepI c g e num m r w bk bc f q σ' wr

set_option maxRecDepth 100000 in
set_option maxHeartbeats 8000000 in
theorem single_any {c : PC} (hok : c.Ok) {g : List Rl} {m : Nat} (hT : DoesTry c g m) (k a b d1 d2 : Int) (t : ByteArray) (e : Ex) (num p : Nat) (σ : PS) (r : Option Nat × PS) (cs : List Value) (w : World) (h7 : 7 ≤ k) (h11 : k ≤ 11)
    (hpk : pk g c.s.data.toList c.hk m (.one k e num) p σ = some r) (hE : ExIs w c.B (.mk k a b d1 d2 t [e]) cs) (hR : RtW g e) (hnum : num + 1 + nodes e ≤ c.lim) (hp : p ≤ c.s.data.toList.length) (hB : Bound c.s.data.toList.length σ) (h : Par c w σ) :
    Calls Try.prog 73 #[.pointer (some ⟨c.P, 0, none⟩), .agg cs.toArray, .int .i64 num, .int .i64 p] w (Went c w r) := by
  have hsz := h.size
  have hb1 := hok.Bb
  have hb2 := hok.BP
  have hb3 := hok.BM
  have hbP := hok.P
  have hbM := hok.M
  obtain ⟨ht, KA, kcp, rfl, hkc, hkm, _⟩ := hE.shape
  have hkl : ([e] : List Ex).length = 1 := rfl
  rw [hkl] at hE hkc ⊢
  clear hkl
  unfold exCells
  obtain ⟨ad, k', a', b', c', d', t', ks', A', cp', rfl, hab, hej, hE', hS⟩ := hE.kid (j := 0) (by simp)
  obtain rfl : e = .mk k' a' b' c' d' t' ks' := by simpa using hej
  rw [Nat.zero_mul] at hS
  have hS1 : Seven w ad k' a' b' c' d' t' A' ks'.length cp' := hS
  have hsv := fun W (hW : Below c.B w W) => hS1.keep (w' := W) fun q hq => hW.cell (by rw [hq]; exact hab)
  have hal : Below w.heap.size w (w.alloc (.cells #[.int .i64 k, .int .u64 a, .int .u64 b, .int .u64 d1, .int .u64 d2, .string t, .slice (some ad) 1 kcp] 27)) := (Below.refl _ _).alloc (Nat.le_refl _) _
  have hpar := h.below hok hal
  have hkp : Keeps c w (w.alloc (.cells #[.int .i64 k, .int .u64 a, .int .u64 b, .int .u64 d1, .int .u64 d2, .string t, .slice (some ad) 1 kcp] 27)) := Keeps.of_below hal
  have hm8 : (1 : Nat) ≤ kcp := hkc
  unfold maxLen at hkm
  cases m with
  | zero => cases hpk
  | succ m =>
  simp only [pk] at hpk
  cases he : pk g c.s.data.toList c.hk m (.try_ (.mk k' a' b' c' d' t' ks') (num + 1)) p σ with
  | none => rw [he] at hpk; cases hpk
  | some r1 =>
  obtain ⟨o, σ1⟩ := r1
  rw [he] at hpk
  have hbd := pk_bound _ _ _ _ _ _ _ _ _ he hp hB
  have hE2 := hE'
  have hcall := fun (f q : Nat) (σ' : PS) (r1 : Option Nat × PS) (W : World) (hf : f ≤ m) (he : pk g c.s.data.toList c.hk f (.try_ (.mk k' a' b' c' d' t' ks') (num + 1)) q σ' = some r1) (hq : q ≤ c.s.data.toList.length) (hB' : Bound c.s.data.toList.length σ') (hPW : Par c W σ') (hKW : Keeps c w W) =>
    (hT.le (Nat.le_trans hf (Nat.le_succ m))) _ (num + 1) q σ' r1 _ W he (hE2.on (hKW.below (by omega) (by omega) (by omega) (by omega))) hR hnum hq hB' hPW
  have hc0 := hcall m p σ (o, σ1) _ (Nat.le_refl m) he hp hB hpar hkp
  unfold exCells at hcall hc0
  rw [show ((num + 1 : Nat) : Int) = (num : Int) + 1 by omega] at hcall hc0
  have hadl : ad.block < w.heap.size := by omega
  obtain ⟨s0, s1, s2, s3, s4, s5, s6⟩ := hS1
  have HC := Lib.hid hcall
  have HC0 := Lib.hid hc0
  have HPK := Lib.hid hpk
  have HBD := Lib.hid hbd
  have HSV := Lib.hid hsv
  have hnum' : num + 1 + nodes (.mk k' a' b' c' d' t' ks') ≤ 1000000000000 := Nat.le_trans hnum hok.lim
  generalize nodes (.mk k' a' b' c' d' t' ks') = nn at hnum'
  clear hE hE' hE2 hT hcall hc0 hpk hbd he hej hR hB h hp hS hsv hnum
  go_enter Try.func73, Try.ntmps73
  go_wp2_with fail
  refine HC0.out.mono ?_
  rintro e' w2 ⟨⟨z, rfl, hz⟩, h1, h2⟩
  have hbx : Blk w2 w.heap.size 27 #[.int .i64 k, .int .u64 a, .int .u64 b, .int .u64 d1, .int .u64 d2, .string t, .slice (some ad) 1 kcp] := h2.box (blk_at rfl) (by decide) (by omega) (by omega)
  have hk2 : Keeps c w w2 := hkp.trans h2
  have x0 : w2.cell? ⟨w.heap.size, 0, none⟩ = some (.int .i64 k) := hbx.cell 0
  clear s0 s1 s2 s3 s4 s5 s6
  have hk5 : k = 7 ∨ k = 8 ∨ k = 9 ∨ k = 10 ∨ k = 11 := by omega
  cases o with
  | none =>
    have hr : r = (if k = 8 ∨ k = 10 then none else some p, σ1) := by have := HPK.out; simp only [Option.some.injEq] at this; exact this.symm
    clear HC HPK HBD HSV hkp hpar hal HC0
    have hend : ∀ W, W = w2 ∨ W = w2.drew → Par c W σ1 ∧ Keeps c w W := fun W hW => by
      rcases hW with rfl | rfl
      · exact ⟨h1, hk2⟩
      · exact ⟨h1.drew, hk2.drew⟩
    rcases hk5 with rfl | rfl | rfl | rfl | rfl
    · have hr' : r = (some p, σ1) := by rw [hr]; rfl
      subst hr'
      go_wp2
      refine wp_region_q (fun W => Par c W σ1 ∧ Keeps c w W ∧ Blk W w.heap.size 27 #[.int .i64 _, .int .u64 a, .int .u64 b, .int .u64 d1, .int .u64 d2, .string t, .slice (some ad) 1 kcp]) (by kernel_rfl) (by kernel_rfl) ⟨h1.drew, hk2.drew, hbx.drew⟩ ?_
      repeat
        (first | ((with_reducible apply QW.free rfl); · (intro W hW; obtain ⟨q1, q2, q3⟩ := hW; have t0 := q3.cell 0; go_simp; first | rfl)) | ((with_reducible apply QW.skip rfl); · (first | exact ⟨_, _, rfl, rfl, .inl rfl⟩ | exact ⟨_, _, rfl, rfl, .inr rfl⟩)) | ((with_reducible apply QW.take rfl); (· exact ⟨_, rfl, rfl⟩); (· (intro W hW; obtain ⟨q1, q2, q3⟩ := hW; have t0 := q3.cell 0; go_simp; first | rfl)))); (try simp only [Act.put, List.setIfInBounds_toArray, List.set_cons_zero, List.set_cons_succ])
      refine QW.nil ?_
      rintro w3 ⟨q1, q2, q3⟩
      go_wp2
      go_ret2
      exact ⟨⟨p, rfl, fun to ht => by injection ht with ht; rw [ht]⟩, q1, q2⟩
    · have hr' : r = (none, σ1) := by rw [hr]; rfl
      subst hr'
      go_wp2
      refine wp_region_q (fun W => Par c W σ1 ∧ Keeps c w W ∧ Blk W w.heap.size 27 #[.int .i64 _, .int .u64 a, .int .u64 b, .int .u64 d1, .int .u64 d2, .string t, .slice (some ad) 1 kcp]) (by kernel_rfl) (by kernel_rfl) ⟨h1.drew, hk2.drew, hbx.drew⟩ ?_
      repeat
        (first | ((with_reducible apply QW.free rfl); · (intro W hW; obtain ⟨q1, q2, q3⟩ := hW; have t0 := q3.cell 0; go_simp; first | rfl)) | ((with_reducible apply QW.skip rfl); · (first | exact ⟨_, _, rfl, rfl, .inl rfl⟩ | exact ⟨_, _, rfl, rfl, .inr rfl⟩)) | ((with_reducible apply QW.take rfl); (· exact ⟨_, rfl, rfl⟩); (· (intro W hW; obtain ⟨q1, q2, q3⟩ := hW; have t0 := q3.cell 0; go_simp; first | rfl)))); (try simp only [Act.put, List.setIfInBounds_toArray, List.set_cons_zero, List.set_cons_succ])
      refine QW.nil ?_
      rintro w3 ⟨q1, q2, q3⟩
      go_wp2
      go_ret2
      exact ⟨⟨p, rfl, fun to ht => by cases ht⟩, q1, q2⟩
    · have hr' : r = (some p, σ1) := by rw [hr]; rfl
      subst hr'
      go_wp2
      refine wp_region_q (fun W => Par c W σ1 ∧ Keeps c w W ∧ Blk W w.heap.size 27 #[.int .i64 _, .int .u64 a, .int .u64 b, .int .u64 d1, .int .u64 d2, .string t, .slice (some ad) 1 kcp]) (by kernel_rfl) (by kernel_rfl) ⟨h1.drew, hk2.drew, hbx.drew⟩ ?_
      repeat
        (first | ((with_reducible apply QW.free rfl); · (intro W hW; obtain ⟨q1, q2, q3⟩ := hW; have t0 := q3.cell 0; go_simp; first | rfl)) | ((with_reducible apply QW.skip rfl); · (first | exact ⟨_, _, rfl, rfl, .inl rfl⟩ | exact ⟨_, _, rfl, rfl, .inr rfl⟩)) | ((with_reducible apply QW.take rfl); (· exact ⟨_, rfl, rfl⟩); (· (intro W hW; obtain ⟨q1, q2, q3⟩ := hW; have t0 := q3.cell 0; go_simp; first | rfl)))); (try simp only [Act.put, List.setIfInBounds_toArray, List.set_cons_zero, List.set_cons_succ])
      refine QW.nil ?_
      rintro w3 ⟨q1, q2, q3⟩
      go_wp2
      go_ret2
      exact ⟨⟨p, rfl, fun to ht => by injection ht with ht; rw [ht]⟩, q1, q2⟩
    · have hr' : r = (none, σ1) := by rw [hr]; rfl
      subst hr'
      go_wp2
      go_ret2
      exact ⟨⟨p, rfl, fun to ht => by cases ht⟩, h1, hk2⟩
    · have hr' : r = (some p, σ1) := by rw [hr]; rfl
      subst hr'
      go_wp2
      go_ret2
      exact ⟨⟨p, rfl, fun to ht => by injection ht with ht; rw [ht]⟩, h1, hk2⟩
  | some to =>
    obtain rfl := hz to rfl
    have hto := HBD.out.1 to rfl
    have hb1' := HBD.out.2
    rcases (by omega : k = 10 ∨ k = 11 ∨ k = 9 ∨ (k = 7 ∨ k = 8)) with rfl | rfl | rfl | hk78
    · have hr' : r = (some p, σ1) := by have := HPK.out; simpa using this.symm
      subst hr'
      go_wp2
      go_ret2
      exact ⟨⟨p, rfl, fun to ht => by injection ht with ht; rw [ht]⟩, h1, hk2⟩
    · have hr' : r = (none, σ1) := by have := HPK.out; simpa using this.symm
      subst hr'
      go_wp2
      go_ret2
      exact ⟨⟨p, rfl, fun to ht => by cases ht⟩, h1, hk2⟩
    · have hr' : r = (some to, σ1) := by have := HPK.out; simpa using this.symm
      subst hr'
      go_wp2
      go_loopw [10, 12, 13] (fun v _ _ wr => v = .int .i64 to ∧ Par c wr σ1 ∧ Keeps c w wr ∧ Blk wr w.heap.size 27 #[.int .i64 9, .int .u64 a, .int .u64 b, .int .u64 d1, .int .u64 d2, .string t, .slice (some ad) 1 kcp]) (fun _ _ _ _ => 0)
      case atStart => exact ⟨rfl, h1, hk2, hbx⟩
      case round =>
        clear h1 hk2 hbx x0
        obtain ⟨rfl, h1, hk2, hbx⟩ := hrel
        have x0 : wr.cell? ⟨w.heap.size, 0, none⟩ = some (.int .i64 9) := hbx.cell 0
        go_wp2
        go_ret2
        exact ⟨⟨to, rfl, fun to ht => by injection ht with ht; rw [ht]⟩, h1, hk2⟩
    · have hne9 : (k != 9) = true := by rw [bne_iff_ne]; omega
      have hne10 : (k == 10) = false := by rw [beq_eq_false_iff_ne]; omega
      have hne11 : (k == 11) = false := by rw [beq_eq_false_iff_ne]; omega
      have hpk : Hid (pk g c.s.data.toList c.hk m (.rep (.mk k' a' b' c' d' t' ks') (num + 1)) to σ1 = some r) := by
        have := HPK.out
        simp only at this
        rw [if_neg (by omega), if_neg (by omega), if_neg (by omega)] at this
        exact this
      clear hk78 hk5 HPK HBD HC0
      have H0 : RepI c g (.mk k' a' b' c' d' t' ks') (num + 1) m r w w.heap.size #[.int .i64 k, .int .u64 a, .int .u64 b, .int .u64 d1, .int .u64 d2, .string t, .slice (some ad) 1 kcp] m to σ1 w2 := ⟨Nat.le_refl _, hpk, hto, hb1', h1, hk2, hbx⟩
      go_wp2
      go_loopw [10, 12, 13] (fun v _ _ wr => ∃ f, RepR c g (.mk k' a' b' c' d' t' ks') (num + 1) m r w w.heap.size #[.int .i64 k, .int .u64 a, .int .u64 b, .int .u64 d1, .int .u64 d2, .string t, .slice (some ad) 1 kcp] v wr f) (fun v _ _ wr => leastN (RepR c g (.mk k' a' b' c' d' t' ks') (num + 1) m r w w.heap.size #[.int .i64 k, .int .u64 a, .int .u64 b, .int .u64 d1, .int .u64 d2, .string t, .slice (some ad) 1 kcp] v wr))
      case atStart => exact ⟨m, to, σ1, rfl, H0⟩
      case round =>
        clear h1 hk2 hbx x0 H0 hpk hto hb1'
        obtain ⟨hf, hleast⟩ := leastN_spec hrel
        clear hrel
        clear hleast
        generalize hL : leastN _ = f at hf
        obtain ⟨q, σ', rfl, H⟩ := hf
        have HL := Lib.hid hL
        clear hL
        have x0 : wr.cell? ⟨w.heap.size, 0, none⟩ = some (.int .i64 k) := H.box.cell 0
        have x6 : wr.cell? ⟨w.heap.size, 6, none⟩ = some (.slice (some ad) 1 kcp) := H.box.cell 6
        obtain ⟨s0, s1, s2, s3, s4, s5, s6⟩ := HSV.out wr (H.keeps.below (by omega) (by omega) (by omega) (by omega))
        have hpk := H.pk.out
        cases f with
        | zero => cases hpk
        | succ f =>
        simp only [pk] at hpk
        cases he : pk g c.s.data.toList c.hk f (.try_ (.mk k' a' b' c' d' t' ks') (num + 1)) q σ' with
        | none => rw [he] at hpk; cases hpk
        | some r1 =>
        obtain ⟨o, σ2⟩ := r1
        rw [he] at hpk
        have hle := H.le
        have hbd := pk_bound _ _ _ _ _ _ _ _ _ he H.pos H.bound
        have hc0 := HC.out f q σ' (o, σ2) wr (by omega) he H.pos H.bound H.par H.keeps
        have HC0 := Lib.hid hc0
        have HPK := Lib.hid hpk
        have HBD := Lib.hid hbd
        have hkw := H.keeps
        have hxw := H.box
        clear hc0 hpk hbd he H
        go_wp2_with fail
        refine HC0.out.mono ?_
        rintro e' w3 ⟨⟨z, rfl, hz⟩, h1, h2⟩
        have hbx : Blk w3 w.heap.size 27 #[.int .i64 k, .int .u64 a, .int .u64 b, .int .u64 d1, .int .u64 d2, .string t, .slice (some ad) 1 kcp] := h2.box hxw (by decide) (by omega) (by omega)
        have hk2 : Keeps c w w3 := hkw.trans h2
        clear s0 s1 s2 s3 s4 s5 s6
        cases o with
        | none =>
          have hr' : r = (some q, σ2) := by have := HPK.out; simpa using this.symm
          subst hr'
          go_wp2
          go_ret2
          exact ⟨⟨q, rfl, fun to ht => by injection ht with ht; rw [ht]⟩, h1, hk2⟩
        | some to' =>
          obtain rfl := hz to' rfl
          have hnext : RepR c g (.mk k' a' b' c' d' t' ks') (num + 1) m r w w.heap.size #[.int .i64 k, .int .u64 a, .int .u64 b, .int .u64 d1, .int .u64 d2, .string t, .slice (some ad) 1 kcp] (.int .i64 to') w3 f := ⟨to', σ2, rfl, by omega, HPK, HBD.out.1 to' rfl, HBD.out.2, h1, hk2, hbx⟩
          go_wp2
          go_roundw
          case rel => exact ⟨f, hnext⟩
          case measure => rw [HL.out]; exact Nat.lt_of_le_of_lt ((leastN_spec ⟨f, hnext⟩).2 f hnext) (Nat.lt_succ_self f)
end Go.Proofs.Ytndhbdbfjkmloaa
namespace Go.Proofs.Ytndhbdbfjkmloaa
open Go.RowKit Go.Maps

set_option maxRecDepth 100000 in
theorem hasPrefix0_any (s p : ByteArray) (w : World) : Calls Try.prog 78 #[.string s, .string p] w fun e w' => e = .returned (.bool (p.data.toList.isPrefixOf s.data.toList)) ∧ Below w.heap.size w w' := by
  have HX : Hid ((decide (p.data.toList.length ≤ s.data.toList.length) && (s.data.toList.take p.data.toList.length == p.data.toList)) = p.data.toList.isPrefixOf s.data.toList) := Lib.hasPrefix_of_take _ _
  generalize p.data.toList.isPrefixOf s.data.toList = r at HX
  have HL := Lib.hid (size_list s)
  have HP := Lib.hid (size_list p)
  by_cases h : p.size ≤ s.size
  · have HY : Hid (((s.extract 0 p.size).toList == p.toList) = r) := by
      show _ = _
      rw [← HX.out, Lib.extract_toList, ByteArray.toList_eq, List.drop_zero, HL.out, HP.out, decide_eq_true h, Bool.true_and, Nat.sub_zero]
    clear HX
    go_enter Try.func78, Try.ntmps78
    go_wp2
    go_ret
    exact ⟨ret_bool HY.out, (by repeat (first | exact Below.refl _ _ | assumption | refine Below.drew ?_ | refine below_drewN ?_ _ | refine Below.alloc ?_ (by first | omega | (simp; omega) | simp) _ | refine Below.setCell ?_ (by first | omega | (simp; omega) | simp) _))⟩
  · have HY : Hid (r = false) := by
      show _ = _
      rw [← HX.out, HL.out, HP.out, decide_eq_false h, Bool.false_and]
    clear HX
    go_enter Try.func78, Try.ntmps78
    go_wp2
    go_ret
    exact ⟨ret_bool HY.out.symm, (by repeat (first | exact Below.refl _ _ | assumption | refine Below.drew ?_ | refine below_drewN ?_ _ | refine Below.alloc ?_ (by first | omega | (simp; omega) | simp) _ | refine Below.setCell ?_ (by first | omega | (simp; omega) | simp) _))⟩
set_option maxRecDepth 100000 in
theorem hasPrefix_any (s p : ByteArray) (w : World) : Calls Try.prog 60 #[.string s, .string p] w fun e w' => e = .returned (.bool (p.data.toList.isPrefixOf s.data.toList)) ∧ Below w.heap.size w w' := by
  have hc := hasPrefix0_any s p
  generalize p.data.toList.isPrefixOf s.data.toList = r at hc ⊢
  have HC := Lib.hid hc
  clear hc
  go_enter Try.func60, Try.ntmps60
  go_wp2_with fail
  refine (HC.out _).mono ?_
  rintro e w1 ⟨rfl, hb⟩
  go_wp2
  go_ret
  exact ⟨rfl, hb⟩

/-! how much of a text stands at a place -/
section
variable (s : List UInt8) (p : Nat) (t : List UInt8)
theorem alike_spec : ∀ (f k : Nat), k + f = t.length → (∀ j, j < k → p + j < s.length ∧ bt s (p + j) = bt t j) → litAt s p t = false →
    alike s p t f k < t.length ∧ k ≤ alike s p t f k ∧ p + alike s p t f k ≤ max (p + k) s.length := by
  intro f
  induction f with
  | zero =>
    intro k hk hs hl
    exfalso
    have hk : k = t.length := by omega
    have : litAt s p t = true := by
      unfold litAt
      rw [List.isPrefixOf_iff_prefix, List.prefix_iff_eq_take]
      apply List.ext_getElem?
      intro j
      rw [List.getElem?_take]
      split
      · rename_i hj
        obtain ⟨h1, h2⟩ := hs j (by omega)
        rw [List.getElem?_drop, List.getElem?_eq_getElem h1, List.getElem?_eq_getElem hj]
        unfold bt at h2
        rw [List.getD_eq_getElem?_getD, List.getD_eq_getElem?_getD, List.getElem?_eq_getElem h1, List.getElem?_eq_getElem hj] at h2
        simp only [Option.getD_some] at h2
        rw [UInt8.toNat.inj h2]
      · rw [List.getElem?_eq_none (by omega)]
    rw [this] at hl
    cases hl
  | succ f ih =>
    intro k hk hs hl
    unfold alike
    split
    · rename_i h
      obtain ⟨a, b, c⟩ := ih (k + 1) (by omega) (fun j hj => by
        by_cases hjk : j < k
        · exact hs j hjk
        · obtain rfl : j = k := by omega
          exact h) hl
      exact ⟨a, by omega, by omega⟩
    · exact ⟨by omega, Nat.le_refl _, by omega⟩
theorem matchN_lt (h : litAt s p t = false) (hp : p ≤ s.length) : matchN s p t < t.length ∧ p + matchN s p t ≤ s.length := by
  obtain ⟨a, _, c⟩ := alike_spec s p t t.length 0 (by omega) (fun j h => by omega) h
  exact ⟨a, by unfold matchN; omega⟩
end

/-- nothing goes back -/
theorem pk_ge (g : List Rl) (s : List UInt8) (hook : Bool) : ∀ m j p σ o σ1, pk g s hook m j p σ = some (o, σ1) → ∀ to, o = some to → p ≤ to := by
  intro m
  induction m with
  | zero => intro j p σ o σ1 h; cases h
  | succ m ih =>
    intro j p σ o σ1 h to ht
    cases j with
    | try_ e n =>
      simp only [pk] at h
      cases he : pk g s hook m (.node e n) p σ with
      | none => rw [he] at h; cases h
      | some x =>
        obtain ⟨o', σ'⟩ := x
        rw [he] at h
        simp only [Option.some.injEq, Prod.mk.injEq] at h
        obtain ⟨rfl, rfl⟩ := h
        exact ih _ _ _ _ _ he to ht
    | rule i =>
      simp only [pk] at h
      cases hs : recall σ.seen (i, p) with
      | some o' =>
        rw [hs] at h
        simp only [Option.some.injEq, Prod.mk.injEq] at h
        obtain ⟨rfl, rfl⟩ := h
        cases o' with
        | none => cases ht
        | some k => simp only [Option.map_some, Option.some.injEq] at ht; omega
      | none =>
        rw [hs] at h
        simp only at h
        cases hg : g[i]? with
        | none => rw [hg] at h; cases h
        | some r =>
          rw [hg] at h
          simp only at h
          cases he : pk g s hook m (.try_ r.2 (firstN g i)) p σ with
          | none => rw [he] at h; cases h
          | some x =>
            obtain ⟨o', σ'⟩ := x
            rw [he] at h
            simp only at h
            split at h
            · cases h
            · simp only [Option.some.injEq, Prod.mk.injEq] at h
              obtain ⟨rfl, _⟩ := h
              exact ih _ _ _ _ _ he to ht
    | seq es n =>
      cases es with
      | nil => simp only [pk, Option.some.injEq, Prod.mk.injEq] at h; obtain ⟨rfl, _⟩ := h; injection ht with ht; omega
      | cons e es =>
        simp only [pk] at h
        cases he : pk g s hook m (.try_ e n) p σ with
        | none => rw [he] at h; cases h
        | some x =>
          obtain ⟨o', σ'⟩ := x
          rw [he] at h
          cases o' with
          | none => simp only [Option.some.injEq, Prod.mk.injEq] at h; obtain ⟨rfl, _⟩ := h; cases ht
          | some q => exact Nat.le_trans (ih _ _ _ _ _ he q rfl) (ih _ _ _ _ _ h to ht)
    | alt es n =>
      cases es with
      | nil => simp only [pk, Option.some.injEq, Prod.mk.injEq] at h; obtain ⟨rfl, _⟩ := h; cases ht
      | cons e es =>
        simp only [pk] at h
        cases he : pk g s hook m (.try_ e n) p σ with
        | none => rw [he] at h; cases h
        | some x =>
          obtain ⟨o', σ'⟩ := x
          rw [he] at h
          cases o' with
          | none => exact ih _ _ _ _ _ h to ht
          | some q =>
            simp only [Option.some.injEq, Prod.mk.injEq] at h
            obtain ⟨rfl, _⟩ := h
            exact ih _ _ _ _ _ he to ht
    | rep e n =>
      simp only [pk] at h
      cases he : pk g s hook m (.try_ e n) p σ with
      | none => rw [he] at h; cases h
      | some x =>
        obtain ⟨o', σ'⟩ := x
        rw [he] at h
        cases o' with
        | none => simp only [Option.some.injEq, Prod.mk.injEq] at h; obtain ⟨rfl, _⟩ := h; injection ht with ht; omega
        | some q => exact Nat.le_trans (ih _ _ _ _ _ he q rfl) (ih _ _ _ _ _ h to ht)
    | node e n =>
      obtain ⟨k, a, b, c, d, t, ks⟩ := e
      rw [pk_node] at h
      split at h
      · simp only [Option.some.injEq, Prod.mk.injEq] at h; obtain ⟨rfl, _⟩ := h; injection ht with ht; omega
      split at h
      · split at h
        · simp only [Option.some.injEq, Prod.mk.injEq] at h; obtain ⟨rfl, _⟩ := h; injection ht with ht; omega
        · simp only [Option.some.injEq, Prod.mk.injEq] at h; obtain ⟨rfl, _⟩ := h; cases ht
      split at h
      · split at h
        · simp only [Option.some.injEq, Prod.mk.injEq] at h; obtain ⟨rfl, _⟩ := h; injection ht with ht; omega
        · simp only [Option.some.injEq, Prod.mk.injEq] at h; obtain ⟨rfl, _⟩ := h; cases ht
      split at h
      · exact ih _ _ _ _ _ h to ht
      split at h
      · exact ih _ _ _ _ _ h to ht
      split at h
      · exact ih _ _ _ _ _ h to ht
      split at h
      · cases h
      · exact ih _ _ _ _ _ h to ht
    | one k e n =>
      simp only [pk] at h
      cases he : pk g s hook m (.try_ e (n + 1)) p σ with
      | none => rw [he] at h; cases h
      | some x =>
        obtain ⟨o', σ'⟩ := x
        rw [he] at h
        cases o' with
        | none =>
          simp only [Option.some.injEq, Prod.mk.injEq] at h; obtain ⟨rfl, _⟩ := h
          split at ht
          · cases ht
          · injection ht with ht; omega
        | some q =>
          have hq := ih _ _ _ _ _ he q rfl
          simp only at h
          split at h
          · simp only [Option.some.injEq, Prod.mk.injEq] at h; obtain ⟨rfl, _⟩ := h; injection ht with ht; omega
          split at h
          · simp only [Option.some.injEq, Prod.mk.injEq] at h; obtain ⟨rfl, _⟩ := h; cases ht
          split at h
          · simp only [Option.some.injEq, Prod.mk.injEq] at h; obtain ⟨rfl, _⟩ := h; injection ht with ht; omega
          exact Nat.le_trans hq (ih _ _ _ _ _ h to ht)
end Go.Proofs.Ytndhbdbfjkmloaa
namespace Go.Proofs.Ytndhbdbfjkmloaa
open Go.RowKit Go.Maps

theorem wrap_i64 (n : Int) (h1 : -9223372036854775808 ≤ n) (h2 : n ≤ 9223372036854775807) : IntKind.i64.wrap n = n := by
  unfold IntKind.wrap IntKind.signed IntKind.bits
  simp
  omega
/-- where a node's walk stands: the parser, all that was, the node's own cells -/
structure NodeC (c : PC) (w : World) (σ : PS) (bc : Array Value) (W : World) : Prop where
  par : Par c W σ
  keeps : Keeps c w W
  box : Blk W w.heap.size 27 bc
section
variable {c : PC} {w W W' : World} {σ : PS} {bc : Array Value}
theorem NodeC.drew (h : NodeC c w σ bc W) : NodeC c w σ bc W.drew := ⟨h.par.drew, h.keeps.drew, h.box.drew⟩
theorem NodeC.below (h : NodeC c w σ bc W) (hok : c.Ok) (hb : Below W.heap.size W W') : NodeC c w σ bc W' := ⟨h.par.below hok hb, h.keeps.trans (Keeps.of_below hb), h.box.below hb h.box.lt⟩
theorem NodeC.start (h : Par c w σ) (hok : c.Ok) (bc : Array Value) : NodeC c w σ bc (w.alloc (.cells bc 27)) :=
  ⟨h.alloc hok _, (Keeps.refl c w).alloc _, blk_at rfl⟩
theorem NodeC.past (h : NodeC c w σ bc W) (hok : c.Ok) (hw : c.base ≤ w.heap.size) {σ' : PS} (hp : Par c W' σ') (hk : Keeps c W W') : NodeC c w σ' bc W' :=
  ⟨hp, h.keeps.trans hk, hk.box h.box (by decide) (by have := hok.P; omega) (by have := hok.M; omega)⟩
end

set_option maxRecDepth 100000 in
set_option maxHeartbeats 4000000 in
theorem node_empty {c : PC} (hok : c.Ok) {σ : PS} (a b d1 d2 : Int) (t : ByteArray) (A : Option Addr) (n cp num p : Nat) (w : World) (h : Par c w σ) :
    Calls Try.prog 50 #[.pointer (some ⟨c.P, 0, none⟩), .agg #[.int .i64 1, .int .u64 a, .int .u64 b, .int .u64 d1, .int .u64 d2, .string t, .slice A n cp], .int .i64 num, .int .i64 p] w (Went c w (some p, σ)) := by
  have hN := NodeC.start h hok #[.int .i64 1, .int .u64 a, .int .u64 b, .int .u64 d1, .int .u64 d2, .string t, .slice A n cp]
  go_enter Try.func50, Try.ntmps50
  go_wp2
  go_ret2
  exact ⟨⟨p, rfl, fun to ht => by injection ht with ht; rw [ht]⟩, hN.par, hN.keeps⟩

set_option maxRecDepth 100000 in
set_option maxHeartbeats 4000000 in
theorem node_set {c : PC} (hok : c.Ok) {σ : PS} (a b d1 d2 : Nat) (ha : a < 18446744073709551616) (hb : b < 18446744073709551616) (hc : d1 < 18446744073709551616) (hd : d2 < 18446744073709551616) (t : ByteArray) (A : Option Addr) (n cp num p : Nat) (hp : p ≤ c.s.data.toList.length) (hl : c.s.data.toList.length ≤ big) (w : World) (h : Par c w σ) :
    Calls Try.prog 50 #[.pointer (some ⟨c.P, 0, none⟩), .agg #[.int .i64 2, .int .u64 a, .int .u64 b, .int .u64 d1, .int .u64 d2, .string t, .slice A n cp], .int .i64 num, .int .i64 p] w
      (Went c w (if p < c.s.data.toList.length ∧ hasE a b d1 d2 (bt c.s.data.toList p) = true then (some (p + 1), σ) else (none, missS σ p ⟨a, b, d1, d2⟩))) := by
  have hN := NodeC.start h hok #[.int .i64 2, .int .u64 a, .int .u64 b, .int .u64 d1, .int .u64 d2, .string t, .slice A n cp]
  have hsz := h.size
  have hlen : c.s.data.toList.length = c.s.size := size_list _
  rw [hlen] at hp hl ⊢
  unfold big at hl
  have hms := fun W (q : Par c W σ) => miss_any hok p ⟨a, b, d1, d2⟩ W q
  have HM := Lib.hid hms
  have hwd : Words [a, b, d1, d2] := fun i => by
    match i with
    | 0 => exact ha
    | 1 => exact hb
    | 2 => exact hc
    | 3 => exact hd
    | i + 4 => simp
  clear hms ha hb hc hd hlen
  by_cases hlt : p < c.s.size
  · have hbt := bt_of hlt
    have hh := has_any [a, b, d1, d2] hwd (bt c.s.data.toList p) (bt_lt _ _)
    unfold vals at hh
    have HX : Hid (hasE a b d1 d2 (bt c.s.data.toList p) = hasN [a, b, d1, d2] (bt c.s.data.toList p)) := by
      show _ = _
      unfold hasE
      simp only [Int.toNat_natCast]
    generalize hasN [a, b, d1, d2] (bt c.s.data.toList p) = x at hh HX
    rw [HX.out]
    have hlt' : (p : Int) < (c.s.size : Int) := by omega
    clear HX hwd
    generalize bt c.s.data.toList p = y at hbt hh
    cases x with
    | true =>
      rw [if_pos ⟨hlt, rfl⟩]
      have HH := Lib.hid hh; clear hh
      go_enter Try.func50, Try.ntmps50
      go_wp2_with fail
      refine wp_region_q (NodeC c w σ #[.int .i64 2, .int .u64 a, .int .u64 b, .int .u64 d1, .int .u64 d2, .string t, .slice A n cp]) (by kernel_rfl) (by kernel_rfl) hN.drew ?_
      repeat
        (first | ((with_reducible apply QW.free rfl); · (intro W hW; have s1 := hW.par.c1; have t1 := hW.box.cell 1; have t2 := hW.box.cell 2; have t3 := hW.box.cell 3; have t4 := hW.box.cell 4; go_simp; first | rfl | (go_at_call 70; refine (HH.out _).mono ?_; exact fun e w' h => ⟨h.1, hW.below hok h.2⟩))) | ((with_reducible apply QW.skip rfl); · (first | exact ⟨_, _, rfl, rfl, .inl rfl⟩ | exact ⟨_, _, rfl, rfl, .inr rfl⟩)) | ((with_reducible apply QW.take rfl); (· exact ⟨_, rfl, rfl⟩); (· (intro W hW; have s1 := hW.par.c1; have t1 := hW.box.cell 1; have t2 := hW.box.cell 2; have t3 := hW.box.cell 3; have t4 := hW.box.cell 4; go_simp; first | rfl | (go_at_call 70; refine (HH.out _).mono ?_; exact fun e w' h => ⟨h.1, hW.below hok h.2⟩))))); (try simp only [Act.put, List.setIfInBounds_toArray, List.set_cons_zero, List.set_cons_succ])
      refine QW.nil ?_
      intro w1 h1
      go_wp2
      go_ret2
      exact ⟨⟨((p + 1 : Nat) : Int), by simp, fun to ht => by injection ht with ht; rw [ht]⟩, h1.par, h1.keeps⟩
    | false =>
      rw [if_neg (by simp)]
      have HH := Lib.hid hh; clear hh
      go_enter Try.func50, Try.ntmps50
      go_wp2_with fail
      refine wp_region_q (NodeC c w σ #[.int .i64 2, .int .u64 a, .int .u64 b, .int .u64 d1, .int .u64 d2, .string t, .slice A n cp]) (by kernel_rfl) (by kernel_rfl) hN.drew ?_
      repeat
        (first | ((with_reducible apply QW.free rfl); · (intro W hW; have s1 := hW.par.c1; have t1 := hW.box.cell 1; have t2 := hW.box.cell 2; have t3 := hW.box.cell 3; have t4 := hW.box.cell 4; go_simp; first | rfl | (go_at_call 70; refine (HH.out _).mono ?_; exact fun e w' h => ⟨h.1, hW.below hok h.2⟩))) | ((with_reducible apply QW.skip rfl); · (first | exact ⟨_, _, rfl, rfl, .inl rfl⟩ | exact ⟨_, _, rfl, rfl, .inr rfl⟩)) | ((with_reducible apply QW.take rfl); (· exact ⟨_, rfl, rfl⟩); (· (intro W hW; have s1 := hW.par.c1; have t1 := hW.box.cell 1; have t2 := hW.box.cell 2; have t3 := hW.box.cell 3; have t4 := hW.box.cell 4; go_simp; first | rfl | (go_at_call 70; refine (HH.out _).mono ?_; exact fun e w' h => ⟨h.1, hW.below hok h.2⟩))))); (try simp only [Act.put, List.setIfInBounds_toArray, List.set_cons_zero, List.set_cons_succ])
      refine QW.nil ?_
      intro w1 h1
      have t1 := h1.box.cell 1
      have t2 := h1.box.cell 2
      have t3 := h1.box.cell 3
      have t4 := h1.box.cell 4
      go_wp2_with fail
      refine (HM.out _ h1.par).mono ?_
      rintro e w2 ⟨rfl, q1, q2⟩
      go_wp2
      go_ret2
      exact ⟨⟨0, rfl, fun to ht => (by cases ht)⟩, q1, h1.keeps.trans q2⟩
  · rw [if_neg (fun h => hlt h.1)]
    have hlt' : ((p : Int) < (c.s.size : Int)) = False := by simp; omega
    clear hwd hlt
    skip
    go_enter Try.func50, Try.ntmps50
    go_wp2_with fail
    refine wp_region_q (NodeC c w σ #[.int .i64 2, .int .u64 a, .int .u64 b, .int .u64 d1, .int .u64 d2, .string t, .slice A n cp]) (by kernel_rfl) (by kernel_rfl) hN.drew ?_
    repeat
      (first | ((with_reducible apply QW.free rfl); · (intro W hW; have s1 := hW.par.c1; have t1 := hW.box.cell 1; have t2 := hW.box.cell 2; have t3 := hW.box.cell 3; have t4 := hW.box.cell 4; go_simp; first | rfl | fail)) | ((with_reducible apply QW.skip rfl); · (first | exact ⟨_, _, rfl, rfl, .inl rfl⟩ | exact ⟨_, _, rfl, rfl, .inr rfl⟩)) | ((with_reducible apply QW.take rfl); (· exact ⟨_, rfl, rfl⟩); (· (intro W hW; have s1 := hW.par.c1; have t1 := hW.box.cell 1; have t2 := hW.box.cell 2; have t3 := hW.box.cell 3; have t4 := hW.box.cell 4; go_simp; first | rfl | fail)))); (try simp only [Act.put, List.setIfInBounds_toArray, List.set_cons_zero, List.set_cons_succ])
    refine QW.nil ?_
    intro w1 h1
    have t1 := h1.box.cell 1
    have t2 := h1.box.cell 2
    have t3 := h1.box.cell 3
    have t4 := h1.box.cell 4
    go_wp2_with fail
    refine (HM.out _ h1.par).mono ?_
    rintro e w2 ⟨rfl, q1, q2⟩
    go_wp2
    go_ret2
    exact ⟨⟨0, rfl, fun to ht => (by cases ht)⟩, q1, h1.keeps.trans q2⟩

theorem alike_ge (s : List UInt8) (p : Nat) (t : List UInt8) : ∀ f k, k ≤ alike s p t f k
  | 0, k => Nat.le_refl _
  | f + 1, k => by
    unfold alike
    split
    · exact Nat.le_trans (Nat.le_succ k) (alike_ge s p t f (k + 1))
    · exact Nat.le_refl _
set_option maxRecDepth 100000 in
set_option maxHeartbeats 8000000 in
theorem node_lit {c : PC} (hok : c.Ok) {σ : PS} (a b d1 d2 : Int) (t : ByteArray) (A : Option Addr) (n cp num p : Nat) (hp : p ≤ c.s.data.toList.length) (hl : c.s.data.toList.length ≤ big) (ht : t.size ≤ big) (w : World) (h : Par c w σ) :
    Calls Try.prog 50 #[.pointer (some ⟨c.P, 0, none⟩), .agg #[.int .i64 3, .int .u64 a, .int .u64 b, .int .u64 d1, .int .u64 d2, .string t, .slice A n cp], .int .i64 num, .int .i64 p] w
      (Went c w (if litAt c.s.data.toList p t.data.toList = true then (some (p + t.size), σ) else (none, missS σ (p + matchN c.s.data.toList p t.data.toList) (oneS (bt t.data.toList (matchN c.s.data.toList p t.data.toList)))))) := by
  have hN := NodeC.start h hok #[.int .i64 3, .int .u64 a, .int .u64 b, .int .u64 d1, .int .u64 d2, .string t, .slice A n cp]
  have hsz := h.size
  have hlen : c.s.data.toList.length = c.s.size := size_list _
  have htl : t.data.toList.length = t.size := size_list _
  have hmt := matchN_lt c.s.data.toList p t.data.toList
  have hpf := hasPrefix_any (c.s.extract p c.s.size) t
  have hpe : t.data.toList.isPrefixOf (c.s.extract p c.s.size).data.toList = litAt c.s.data.toList p t.data.toList := by
    rw [Lib.extract_data, ← hlen, litAt, List.take_of_length_le (by rw [List.length_drop]; exact Nat.le_refl _)]
  rw [hpe] at hpf
  rw [hlen] at hp hl hmt
  rw [htl] at hmt
  unfold big at hl ht
  clear hpe h
  cases hx : litAt c.s.data.toList p t.data.toList with
  | true =>
    rw [hx] at hpf
    rw [if_pos rfl]
    have HPF := Lib.hid hpf
    clear hmt hpf hx hlen htl
    go_enter Try.func50, Try.ntmps50
    go_wp2_with fail
    refine wp_region_q (NodeC c w σ #[.int .i64 3, .int .u64 a, .int .u64 b, .int .u64 d1, .int .u64 d2, .string t, .slice A n cp]) (by kernel_rfl) (by kernel_rfl) hN.drew ?_
    repeat
      (first | ((with_reducible apply QW.free rfl); · (intro W hW; have s1 := hW.par.c1; have t5 := hW.box.cell 5; go_simp; first | rfl | (go_at_call 60; refine (HPF.out _).mono ?_; exact fun e w' h => ⟨h.1, hW.below hok h.2⟩))) | ((with_reducible apply QW.skip rfl); · (first | exact ⟨_, _, rfl, rfl, .inl rfl⟩ | exact ⟨_, _, rfl, rfl, .inr rfl⟩)) | ((with_reducible apply QW.take rfl); (· exact ⟨_, rfl, rfl⟩); (· (intro W hW; have s1 := hW.par.c1; have t5 := hW.box.cell 5; go_simp; first | rfl | (go_at_call 60; refine (HPF.out _).mono ?_; exact fun e w' h => ⟨h.1, hW.below hok h.2⟩))))); (try simp only [Act.put, List.setIfInBounds_toArray, List.set_cons_zero, List.set_cons_succ])
    refine QW.nil ?_
    intro w1 h1
    have t5 := h1.box.cell 5
    go_wp2
    go_ret2
    exact ⟨⟨((p + t.size : Nat) : Int), by simp, fun to ht => by injection ht with ht; rw [ht]⟩, h1.par, h1.keeps⟩
  | false =>
    rw [hx] at hpf
    rw [if_neg (by simp)]
    have hmt := hmt hx hp
    have HM0 : Hid (alike c.s.data.toList p t.data.toList t.size 0 = matchN c.s.data.toList p t.data.toList) := by
      show _ = _
      rw [matchN, htl]
    generalize matchN c.s.data.toList p t.data.toList = M at HM0 hmt ⊢
    have hms := fun W (q : Par c W σ) => miss_any hok (p + M) (oneS (bt t.data.toList M)) W q
    have hbM := bt_of hmt.1
    have hrg := fun W => range_any (bt t.data.toList M) (bt t.data.toList M) W (by have := bt_lt t.data.toList M; unfold I64; omega) (by have := bt_lt t.data.toList M; unfold I64; omega) (bt t.data.toList M) 1 (by omega) (by have := bt_lt t.data.toList M; omega)
    have hwo : words (rangeL (bt t.data.toList M) 1) = #[.int .u64 (oneS (bt t.data.toList M)).a, .int .u64 (oneS (bt t.data.toList M)).b, .int .u64 (oneS (bt t.data.toList M)).c, .int .u64 (oneS (bt t.data.toList M)).d] := by
      have hl4 := rangeL_len (bt t.data.toList M) 1
      unfold words oneS
      generalize rangeL (bt t.data.toList M) 1 = l at hl4
      match l, hl4 with
      | [x0, x1, x2, x3], _ => rfl
    rw [hwo] at hrg
    generalize hy : bt t.data.toList M = y at hms hbM hrg
    have hy256 : y < 256 := by rw [← hy]; exact bt_lt _ _
    have hwy : IntKind.i64.wrap (y : Int) = (y : Int) := wrap_i64 _ (by omega) (by omega)
    have HPF := Lib.hid hpf
    have HMS := Lib.hid hms
    have HRG := Lib.hid hrg
    clear hwo hy hms hrg hpf hx hlen htl
    obtain ⟨hM1, hM2⟩ := hmt
    go_enter Try.func50, Try.ntmps50
    go_wp2_with fail
    refine wp_region_q (NodeC c w σ #[.int .i64 3, .int .u64 a, .int .u64 b, .int .u64 d1, .int .u64 d2, .string t, .slice A n cp]) (by kernel_rfl) (by kernel_rfl) hN.drew ?_
    repeat
      (first | ((with_reducible apply QW.free rfl); · (intro W hW; have s1 := hW.par.c1; have t5 := hW.box.cell 5; go_simp; first | rfl | (go_at_call 60; refine (HPF.out _).mono ?_; exact fun e w' h => ⟨h.1, hW.below hok h.2⟩))) | ((with_reducible apply QW.skip rfl); · (first | exact ⟨_, _, rfl, rfl, .inl rfl⟩ | exact ⟨_, _, rfl, rfl, .inr rfl⟩)) | ((with_reducible apply QW.take rfl); (· exact ⟨_, rfl, rfl⟩); (· (intro W hW; have s1 := hW.par.c1; have t5 := hW.box.cell 5; go_simp; first | rfl | (go_at_call 60; refine (HPF.out _).mono ?_; exact fun e w' h => ⟨h.1, hW.below hok h.2⟩))))); (try simp only [Act.put, List.setIfInBounds_toArray, List.set_cons_zero, List.set_cons_succ])
    refine QW.nil ?_
    intro w1 h1
    clear hN
    go_wp2
    go_loopw [10] (fun v wr => ∃ j f : Nat, v = .int .i64 j ∧ j + f = t.size ∧ j ≤ M ∧ Hid (alike c.s.data.toList p t.data.toList f j = M) ∧ NodeC c w σ #[.int .i64 3, .int .u64 a, .int .u64 b, .int .u64 d1, .int .u64 d2, .string t, .slice A n cp] wr) (fun v _ => t.size - (intOf v).toNat)
    case atStart => exact ⟨0, t.size, rfl, by omega, by omega, HM0, h1⟩
    case round =>
      clear h1
      obtain ⟨j, f, rfl, hjf, hjM, HA, h1⟩ := hrel
      have hstep : ∃ f', f = f' + 1 := ⟨f - 1, by omega⟩
      obtain ⟨f', rfl⟩ := hstep
      have HA' : Hid ((if p + j < c.s.data.toList.length ∧ bt c.s.data.toList (p + j) = bt t.data.toList j then alike c.s.data.toList p t.data.toList f' (j + 1) else j) = M) := HA.out
      rw [size_list] at HA'
      have hjt : j < t.size := by omega
      have hbj := bt_of hjt
      have hjt' : (j : Int) < (t.size : Int) := by omega
      have hwr : IntKind.i64.wrap ((p : Int) + (j : Int)) = (p : Int) + (j : Int) := wrap_i64 _ (by omega) (by omega)
      by_cases hlt : p + j < c.s.size
      · have hbs := bt_of hlt
        have hlt' : (p : Int) + (j : Int) < (c.s.size : Int) := by omega
        have hpj0 : (0 : Int) ≤ (p : Int) + (j : Int) := by omega
        have hpjn : ((p : Int) + (j : Int)).toNat = p + j := by omega
        generalize hx1 : bt c.s.data.toList (p + j) = x1 at hbs HA'
        generalize hx2 : bt t.data.toList j = x2 at hbj HA'
        clear hx1 hx2
        by_cases heq : x1 = x2
        · subst heq
          have HB : Hid (alike c.s.data.toList p t.data.toList f' (j + 1) = M) := by
            show _ = _
            rw [← HA'.out, if_pos ⟨hlt, rfl⟩]
          have hge : j + 1 ≤ M := by rw [← HB.out]; exact alike_ge _ _ _ _ _
          clear HA HA'
          go_wp2_with fail
          refine wp_region_q (NodeC c w σ #[.int .i64 3, .int .u64 a, .int .u64 b, .int .u64 d1, .int .u64 d2, .string t, .slice A n cp]) (by kernel_rfl) (by kernel_rfl) h1.drew ?_
          repeat
            (first | ((with_reducible apply QW.free rfl); · (intro W hW; have s1 := hW.par.c1; have t5 := hW.box.cell 5; go_simp; first | rfl)) | ((with_reducible apply QW.skip rfl); · (first | exact ⟨_, _, rfl, rfl, .inl rfl⟩ | exact ⟨_, _, rfl, rfl, .inr rfl⟩)) | ((with_reducible apply QW.take rfl); (· exact ⟨_, rfl, rfl⟩); (· (intro W hW; have s1 := hW.par.c1; have t5 := hW.box.cell 5; go_simp; first | rfl)))); (try simp only [Act.put, List.setIfInBounds_toArray, List.set_cons_zero, List.set_cons_succ])
          refine QW.nil ?_
          intro w2 h2
          go_wp2
          go_roundw
          case rel => exact ⟨j + 1, f', by go_num, by omega, by omega, HB, h2⟩
          case measure => simp [intOf]; omega
        · have hne : ((x1 : Int) == (x2 : Int)) = false := by rw [beq_eq_false_iff_ne]; omega
          obtain rfl : j = M := by rw [← HA'.out, if_neg (fun h => heq h.2)]
          obtain rfl : x2 = y := hbj.symm.trans hbM
          clear HA HA' heq hbM
          go_wp2_with fail
          refine wp_region_q (NodeC c w σ #[.int .i64 3, .int .u64 a, .int .u64 b, .int .u64 d1, .int .u64 d2, .string t, .slice A n cp]) (by kernel_rfl) (by kernel_rfl) h1.drew ?_
          repeat
            (first | ((with_reducible apply QW.free rfl); · (intro W hW; have s1 := hW.par.c1; have t5 := hW.box.cell 5; go_simp; first | rfl)) | ((with_reducible apply QW.skip rfl); · (first | exact ⟨_, _, rfl, rfl, .inl rfl⟩ | exact ⟨_, _, rfl, rfl, .inr rfl⟩)) | ((with_reducible apply QW.take rfl); (· exact ⟨_, rfl, rfl⟩); (· (intro W hW; have s1 := hW.par.c1; have t5 := hW.box.cell 5; go_simp; first | rfl)))); (try simp only [Act.put, List.setIfInBounds_toArray, List.set_cons_zero, List.set_cons_succ])
          refine QW.nil ?_
          intro w2 h2
          go_wp2_with fail
          refine wp_region_t (NodeC c w σ #[.int .i64 3, .int .u64 a, .int .u64 b, .int .u64 d1, .int .u64 d2, .string t, .slice A n cp]) 15 (by kernel_rfl) (by kernel_rfl) h2.drew ?_
          simp only [List.take_succ_cons, List.take_zero]
          repeat
            (first | ((with_reducible apply QW.free rfl); · (intro W hW; have s1 := hW.par.c1; have t5 := hW.box.cell 5; go_simp; first | (go_at_call 58; refine (HRG.out _).mono ?_; exact fun e w' h => ⟨h.1, hW.below hok h.2⟩) | rfl)) | ((with_reducible apply QW.skip rfl); · (first | exact ⟨_, _, rfl, rfl, .inl rfl⟩ | exact ⟨_, _, rfl, rfl, .inr rfl⟩)) | ((with_reducible apply QW.take rfl); (· exact ⟨_, rfl, rfl⟩); (· (intro W hW; have s1 := hW.par.c1; have t5 := hW.box.cell 5; go_simp; first | (go_at_call 58; refine (HRG.out _).mono ?_; exact fun e w' h => ⟨h.1, hW.below hok h.2⟩) | rfl)))); (try simp only [Act.put, List.setIfInBounds_toArray, List.set_cons_zero, List.set_cons_succ])
          refine QW.nil ?_
          intro w3 h3
          simp only [List.drop]
          go_wp2_with fail
          refine (HMS.out _ h3.par).mono ?_
          rintro e w4 ⟨rfl, q1, q2⟩
          go_wp2
          go_ret2
          exact ⟨⟨0, rfl, fun to ht => (by cases ht)⟩, q1, h3.keeps.trans q2⟩
      · have hlt' : ((p : Int) + (j : Int) < (c.s.size : Int)) = False := by simp; omega
        obtain rfl : j = M := by rw [← HA'.out, if_neg (fun h => hlt h.1)]
        clear HA HA' hlt hbj
        go_wp2_with fail
        refine wp_region_q (NodeC c w σ #[.int .i64 3, .int .u64 a, .int .u64 b, .int .u64 d1, .int .u64 d2, .string t, .slice A n cp]) (by kernel_rfl) (by kernel_rfl) h1.drew ?_
        repeat
          (first | ((with_reducible apply QW.free rfl); · (intro W hW; have s1 := hW.par.c1; have t5 := hW.box.cell 5; go_simp; first | rfl)) | ((with_reducible apply QW.skip rfl); · (first | exact ⟨_, _, rfl, rfl, .inl rfl⟩ | exact ⟨_, _, rfl, rfl, .inr rfl⟩)) | ((with_reducible apply QW.take rfl); (· exact ⟨_, rfl, rfl⟩); (· (intro W hW; have s1 := hW.par.c1; have t5 := hW.box.cell 5; go_simp; first | rfl)))); (try simp only [Act.put, List.setIfInBounds_toArray, List.set_cons_zero, List.set_cons_succ])
        refine QW.nil ?_
        intro w2 h2
        go_wp2_with fail
        refine wp_region_t (NodeC c w σ #[.int .i64 3, .int .u64 a, .int .u64 b, .int .u64 d1, .int .u64 d2, .string t, .slice A n cp]) 15 (by kernel_rfl) (by kernel_rfl) h2.drew ?_
        simp only [List.take_succ_cons, List.take_zero]
        repeat
          (first | ((with_reducible apply QW.free rfl); · (intro W hW; have s1 := hW.par.c1; have t5 := hW.box.cell 5; go_simp; first | (go_at_call 58; refine (HRG.out _).mono ?_; exact fun e w' h => ⟨h.1, hW.below hok h.2⟩) | rfl)) | ((with_reducible apply QW.skip rfl); · (first | exact ⟨_, _, rfl, rfl, .inl rfl⟩ | exact ⟨_, _, rfl, rfl, .inr rfl⟩)) | ((with_reducible apply QW.take rfl); (· exact ⟨_, rfl, rfl⟩); (· (intro W hW; have s1 := hW.par.c1; have t5 := hW.box.cell 5; go_simp; first | (go_at_call 58; refine (HRG.out _).mono ?_; exact fun e w' h => ⟨h.1, hW.below hok h.2⟩) | rfl)))); (try simp only [Act.put, List.setIfInBounds_toArray, List.set_cons_zero, List.set_cons_succ])
        refine QW.nil ?_
        intro w3 h3
        simp only [List.drop]
        go_wp2_with fail
        refine (HMS.out _ h3.par).mono ?_
        rintro e w4 ⟨rfl, q1, q2⟩
        go_wp2
        go_ret2
        exact ⟨⟨0, rfl, fun to ht => (by cases ht)⟩, q1, h3.keeps.trans q2⟩
end Go.Proofs.Ytndhbdbfjkmloaa
