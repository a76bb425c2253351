/- (*Parser).single: what has one kid. -/
import Derived.Test.YtkmcnekjimobhaaGN
namespace Go.Proofs.Ytkmcnekjimobhaa
open Go.RowKit Go.Maps

/-- the least number of which something is so -/
noncomputable def leastN (p : Nat → Prop) : Nat := @ite _ (∃ n, p n ∧ ∀ k, p k → n ≤ k) (Classical.propDecidable _) (Classical.epsilon fun n => p n ∧ ∀ k, p k → n ≤ k) 0
theorem leastN_spec {p : Nat → Prop} (h : ∃ n, p n) : p (leastN p) ∧ ∀ k, p k → leastN p ≤ k := by
  have hm : ∃ n, p n ∧ ∀ k, p k → n ≤ k := by
    obtain ⟨n, hn⟩ := h
    induction n using Nat.strongRecOn with
    | _ n ih =>
      by_cases hk : ∃ k, k < n ∧ p k
      · obtain ⟨k, hk, hp⟩ := hk
        exact ih k hk hp
      · exact ⟨n, hn, fun k hp => Nat.le_of_not_lt fun h => hk ⟨k, h, hp⟩⟩
  unfold leastN
  rw [if_pos hm]
  exact Classical.epsilon_spec hm

/-- again and again: where it stands, with so much fuel -/
structure RepI (c : PC) (g : List Rl) (e : Ex) (num m : Nat) (r : Option Nat × PS) (w : World) (bk : Nat) (bc : Array Value) (f : Nat) (q : Nat) (σ' : PS) (wr : World) : Prop where
  le : f ≤ m
  pk : Hid (pk g c.s.data.toList c.hk f (.rep e num) q σ' = some r)
  pos : q ≤ c.s.data.toList.length
  bound : Bound c.s.data.toList.length σ'
  par : Par c wr σ'
  keeps : Keeps c w wr
  box : Blk wr bk 37 bc
def RepR (c : PC) (g : List Rl) (e : Ex) (num m : Nat) (r : Option Nat × PS) (w : World) (bk : Nat) (bc : Array Value) (v : Value) (wr : World) (f : Nat) : Prop := ∃ (q : Nat) (σ' : PS), v = .int .i64 q ∧ RepI c g e num m r w bk bc f q σ' wr

set_option maxRecDepth 100000 in
set_option maxHeartbeats 8000000 in
theorem single_any {c : PC} (hok : c.Ok) {g : List Rl} {m : Nat} (hT : DoesTry c g m) (k a b d1 d2 : Int) (t : ByteArray) (e : Ex) (num p : Nat) (σ : PS) (r : Option Nat × PS) (cs : List Value) (w : World) (h7 : 7 ≤ k) (h11 : k ≤ 11)
    (hpk : pk g c.s.data.toList c.hk m (.one k e num) p σ = some r) (hE : ExIs w c.B (.mk k a b d1 d2 t [e]) cs) (hR : RtW g e) (hnum : num + 1 + nodes e ≤ c.lim) (hp : p ≤ c.s.data.toList.length) (hB : Bound c.s.data.toList.length σ) (h : Par c w σ) :
    Calls Try.prog 133 #[.pointer (some ⟨c.P, 0, none⟩), .agg cs.toArray, .int .i64 num, .int .i64 p] w (Went c w r) := by
  have hsz := h.size
  have hb1 := hok.Bb
  have hb2 := hok.BP
  have hb3 := hok.BM
  have hbP := hok.P
  have hbM := hok.M
  obtain ⟨ht, KA, kcp, rfl, hkc, hkm, _⟩ := hE.shape
  have hkl : ([e] : List Ex).length = 1 := rfl
  rw [hkl] at hE hkc ⊢
  clear hkl
  unfold exCells
  obtain ⟨ad, k', a', b', c', d', t', ks', A', cp', rfl, hab, hej, hE', hS⟩ := hE.kid (j := 0) (by simp)
  obtain rfl : e = .mk k' a' b' c' d' t' ks' := by simpa using hej
  rw [Nat.zero_mul] at hS
  have hS1 : Seven w ad k' a' b' c' d' t' A' ks'.length cp' := hS
  have hsv := fun W (hW : Below c.B w W) => hS1.keep (w' := W) fun q hq => hW.cell (by rw [hq]; exact hab)
  have hal : Below w.heap.size w (w.alloc (.cells #[.int .i64 k, .int .u64 a, .int .u64 b, .int .u64 d1, .int .u64 d2, .string t, .slice (some ad) 1 kcp] 37)) := (Below.refl _ _).alloc (Nat.le_refl _) _
  have hpar := h.below hok hal
  have hkp : Keeps c w (w.alloc (.cells #[.int .i64 k, .int .u64 a, .int .u64 b, .int .u64 d1, .int .u64 d2, .string t, .slice (some ad) 1 kcp] 37)) := Keeps.of_below hal
  have hm8 : (1 : Nat) ≤ kcp := hkc
  unfold maxLen at hkm
  cases m with
  | zero => cases hpk
  | succ m =>
  simp only [pk] at hpk
  cases he : pk g c.s.data.toList c.hk m (.try_ (.mk k' a' b' c' d' t' ks') (num + 1)) p σ with
  | none => rw [he] at hpk; cases hpk
  | some r1 =>
  obtain ⟨o, σ1⟩ := r1
  rw [he] at hpk
  have hbd := pk_bound _ _ _ _ _ _ _ _ _ he hp hB
  have hE2 := hE'
  have hcall := fun (f q : Nat) (σ' : PS) (r1 : Option Nat × PS) (W : World) (hf : f ≤ m) (he : pk g c.s.data.toList c.hk f (.try_ (.mk k' a' b' c' d' t' ks') (num + 1)) q σ' = some r1) (hq : q ≤ c.s.data.toList.length) (hB' : Bound c.s.data.toList.length σ') (hPW : Par c W σ') (hKW : Keeps c w W) =>
    (hT.le (Nat.le_trans hf (Nat.le_succ m))) _ (num + 1) q σ' r1 _ W he (hE2.on (hKW.below (by omega) (by omega) (by omega) (by omega))) hR hnum hq hB' hPW
  have hc0 := hcall m p σ (o, σ1) _ (Nat.le_refl m) he hp hB hpar hkp
  unfold exCells at hcall hc0
  rw [show ((num + 1 : Nat) : Int) = (num : Int) + 1 by omega] at hcall hc0
  have hadl : ad.block < w.heap.size := by omega
  obtain ⟨s0, s1, s2, s3, s4, s5, s6⟩ := hS1
  have HC := Lib.hid hcall
  have HC0 := Lib.hid hc0
  have HPK := Lib.hid hpk
  have HBD := Lib.hid hbd
  have HSV := Lib.hid hsv
  have hnum' : num + 1 + nodes (.mk k' a' b' c' d' t' ks') ≤ 1000000000000 := Nat.le_trans hnum hok.lim
  generalize nodes (.mk k' a' b' c' d' t' ks') = nn at hnum'
  clear hE hE' hE2 hT hcall hc0 hpk hbd he hej hR hB h hp hS hsv hnum
  go_enter Try.func133, Try.ntmps133
  go_wp2_with fail
  refine HC0.out.mono ?_
  rintro e' w2 ⟨⟨z, rfl, hz⟩, h1, h2⟩
  have hbx : Blk w2 w.heap.size 37 #[.int .i64 k, .int .u64 a, .int .u64 b, .int .u64 d1, .int .u64 d2, .string t, .slice (some ad) 1 kcp] := h2.box (blk_at rfl) (by decide) (by omega) (by omega)
  have hk2 : Keeps c w w2 := hkp.trans h2
  have x0 : w2.cell? ⟨w.heap.size, 0, none⟩ = some (.int .i64 k) := hbx.cell 0
  clear s0 s1 s2 s3 s4 s5 s6
  have hk5 : k = 7 ∨ k = 8 ∨ k = 9 ∨ k = 10 ∨ k = 11 := by omega
  cases o with
  | none =>
    have hr : r = (if k = 8 ∨ k = 10 then none else some p, σ1) := by have := HPK.out; simp only [Option.some.injEq] at this; exact this.symm
    clear HC HPK HBD HSV hkp hpar hal HC0
    have hend : ∀ W, W = w2 ∨ W = w2.drew → Par c W σ1 ∧ Keeps c w W := fun W hW => by
      rcases hW with rfl | rfl
      · exact ⟨h1, hk2⟩
      · exact ⟨h1.drew, hk2.drew⟩
    rcases hk5 with rfl | rfl | rfl | rfl | rfl
    · have hr' : r = (some p, σ1) := by rw [hr]; rfl
      subst hr'
      go_wp2
      refine wp_region_q (fun W => Par c W σ1 ∧ Keeps c w W ∧ Blk W w.heap.size 37 #[.int .i64 _, .int .u64 a, .int .u64 b, .int .u64 d1, .int .u64 d2, .string t, .slice (some ad) 1 kcp]) (by kernel_rfl) (by kernel_rfl) ⟨h1.drew, hk2.drew, hbx.drew⟩ ?_
      repeat
        (first | ((with_reducible apply QW.free rfl); · (intro W hW; obtain ⟨q1, q2, q3⟩ := hW; have t0 := q3.cell 0; go_simp; first | rfl)) | ((with_reducible apply QW.skip rfl); · (first | exact ⟨_, _, rfl, rfl, .inl rfl⟩ | exact ⟨_, _, rfl, rfl, .inr rfl⟩)) | ((with_reducible apply QW.take rfl); (· exact ⟨_, rfl, rfl⟩); (· (intro W hW; obtain ⟨q1, q2, q3⟩ := hW; have t0 := q3.cell 0; go_simp; first | rfl)))); (try simp only [Act.put, List.setIfInBounds_toArray, List.set_cons_zero, List.set_cons_succ])
      refine QW.nil ?_
      rintro w3 ⟨q1, q2, q3⟩
      go_wp2
      go_ret2
      exact ⟨⟨p, rfl, fun to ht => by injection ht with ht; rw [ht]⟩, q1, q2⟩
    · have hr' : r = (none, σ1) := by rw [hr]; rfl
      subst hr'
      go_wp2
      refine wp_region_q (fun W => Par c W σ1 ∧ Keeps c w W ∧ Blk W w.heap.size 37 #[.int .i64 _, .int .u64 a, .int .u64 b, .int .u64 d1, .int .u64 d2, .string t, .slice (some ad) 1 kcp]) (by kernel_rfl) (by kernel_rfl) ⟨h1.drew, hk2.drew, hbx.drew⟩ ?_
      repeat
        (first | ((with_reducible apply QW.free rfl); · (intro W hW; obtain ⟨q1, q2, q3⟩ := hW; have t0 := q3.cell 0; go_simp; first | rfl)) | ((with_reducible apply QW.skip rfl); · (first | exact ⟨_, _, rfl, rfl, .inl rfl⟩ | exact ⟨_, _, rfl, rfl, .inr rfl⟩)) | ((with_reducible apply QW.take rfl); (· exact ⟨_, rfl, rfl⟩); (· (intro W hW; obtain ⟨q1, q2, q3⟩ := hW; have t0 := q3.cell 0; go_simp; first | rfl)))); (try simp only [Act.put, List.setIfInBounds_toArray, List.set_cons_zero, List.set_cons_succ])
      refine QW.nil ?_
      rintro w3 ⟨q1, q2, q3⟩
      go_wp2
      go_ret2
      exact ⟨⟨p, rfl, fun to ht => by cases ht⟩, q1, q2⟩
    · have hr' : r = (some p, σ1) := by rw [hr]; rfl
      subst hr'
      go_wp2
      refine wp_region_q (fun W => Par c W σ1 ∧ Keeps c w W ∧ Blk W w.heap.size 37 #[.int .i64 _, .int .u64 a, .int .u64 b, .int .u64 d1, .int .u64 d2, .string t, .slice (some ad) 1 kcp]) (by kernel_rfl) (by kernel_rfl) ⟨h1.drew, hk2.drew, hbx.drew⟩ ?_
      repeat
        (first | ((with_reducible apply QW.free rfl); · (intro W hW; obtain ⟨q1, q2, q3⟩ := hW; have t0 := q3.cell 0; go_simp; first | rfl)) | ((with_reducible apply QW.skip rfl); · (first | exact ⟨_, _, rfl, rfl, .inl rfl⟩ | exact ⟨_, _, rfl, rfl, .inr rfl⟩)) | ((with_reducible apply QW.take rfl); (· exact ⟨_, rfl, rfl⟩); (· (intro W hW; obtain ⟨q1, q2, q3⟩ := hW; have t0 := q3.cell 0; go_simp; first | rfl)))); (try simp only [Act.put, List.setIfInBounds_toArray, List.set_cons_zero, List.set_cons_succ])
      refine QW.nil ?_
      rintro w3 ⟨q1, q2, q3⟩
      go_wp2
      go_ret2
      exact ⟨⟨p, rfl, fun to ht => by injection ht with ht; rw [ht]⟩, q1, q2⟩
    · have hr' : r = (none, σ1) := by rw [hr]; rfl
      subst hr'
      go_wp2
      go_ret2
      exact ⟨⟨p, rfl, fun to ht => by cases ht⟩, h1, hk2⟩
    · have hr' : r = (some p, σ1) := by rw [hr]; rfl
      subst hr'
      go_wp2
      go_ret2
      exact ⟨⟨p, rfl, fun to ht => by injection ht with ht; rw [ht]⟩, h1, hk2⟩
  | some to =>
    obtain rfl := hz to rfl
    have hto := HBD.out.1 to rfl
    have hb1' := HBD.out.2
    rcases (by omega : k = 10 ∨ k = 11 ∨ k = 9 ∨ (k = 7 ∨ k = 8)) with rfl | rfl | rfl | hk78
    · have hr' : r = (some p, σ1) := by have := HPK.out; simpa using this.symm
      subst hr'
      go_wp2
      go_ret2
      exact ⟨⟨p, rfl, fun to ht => by injection ht with ht; rw [ht]⟩, h1, hk2⟩
    · have hr' : r = (none, σ1) := by have := HPK.out; simpa using this.symm
      subst hr'
      go_wp2
      go_ret2
      exact ⟨⟨p, rfl, fun to ht => by cases ht⟩, h1, hk2⟩
    · have hr' : r = (some to, σ1) := by have := HPK.out; simpa using this.symm
      subst hr'
      go_wp2
      go_loopw [10, 12, 13] (fun v _ _ wr => v = .int .i64 to ∧ Par c wr σ1 ∧ Keeps c w wr ∧ Blk wr w.heap.size 37 #[.int .i64 9, .int .u64 a, .int .u64 b, .int .u64 d1, .int .u64 d2, .string t, .slice (some ad) 1 kcp]) (fun _ _ _ _ => 0)
      case atStart => exact ⟨rfl, h1, hk2, hbx⟩
      case round =>
        clear h1 hk2 hbx x0
        obtain ⟨rfl, h1, hk2, hbx⟩ := hrel
        have x0 : wr.cell? ⟨w.heap.size, 0, none⟩ = some (.int .i64 9) := hbx.cell 0
        go_wp2
        go_ret2
        exact ⟨⟨to, rfl, fun to ht => by injection ht with ht; rw [ht]⟩, h1, hk2⟩
    · have hne9 : (k != 9) = true := by rw [bne_iff_ne]; omega
      have hne10 : (k == 10) = false := by rw [beq_eq_false_iff_ne]; omega
      have hne11 : (k == 11) = false := by rw [beq_eq_false_iff_ne]; omega
      have hpk : Hid (pk g c.s.data.toList c.hk m (.rep (.mk k' a' b' c' d' t' ks') (num + 1)) to σ1 = some r) := by
        have := HPK.out
        simp only at this
        rw [if_neg (by omega), if_neg (by omega), if_neg (by omega)] at this
        exact this
      clear hk78 hk5 HPK HBD HC0
      have H0 : RepI c g (.mk k' a' b' c' d' t' ks') (num + 1) m r w w.heap.size #[.int .i64 k, .int .u64 a, .int .u64 b, .int .u64 d1, .int .u64 d2, .string t, .slice (some ad) 1 kcp] m to σ1 w2 := ⟨Nat.le_refl _, hpk, hto, hb1', h1, hk2, hbx⟩
      go_wp2
      go_loopw [10, 12, 13] (fun v _ _ wr => ∃ f, RepR c g (.mk k' a' b' c' d' t' ks') (num + 1) m r w w.heap.size #[.int .i64 k, .int .u64 a, .int .u64 b, .int .u64 d1, .int .u64 d2, .string t, .slice (some ad) 1 kcp] v wr f) (fun v _ _ wr => leastN (RepR c g (.mk k' a' b' c' d' t' ks') (num + 1) m r w w.heap.size #[.int .i64 k, .int .u64 a, .int .u64 b, .int .u64 d1, .int .u64 d2, .string t, .slice (some ad) 1 kcp] v wr))
      case atStart => exact ⟨m, to, σ1, rfl, H0⟩
      case round =>
        clear h1 hk2 hbx x0 H0 hpk hto hb1'
        obtain ⟨hf, hleast⟩ := leastN_spec hrel
        clear hrel
        clear hleast
        generalize hL : leastN _ = f at hf
        obtain ⟨q, σ', rfl, H⟩ := hf
        have HL := Lib.hid hL
        clear hL
        have x0 : wr.cell? ⟨w.heap.size, 0, none⟩ = some (.int .i64 k) := H.box.cell 0
        have x6 : wr.cell? ⟨w.heap.size, 6, none⟩ = some (.slice (some ad) 1 kcp) := H.box.cell 6
        obtain ⟨s0, s1, s2, s3, s4, s5, s6⟩ := HSV.out wr (H.keeps.below (by omega) (by omega) (by omega) (by omega))
        have hpk := H.pk.out
        cases f with
        | zero => cases hpk
        | succ f =>
        simp only [pk] at hpk
        cases he : pk g c.s.data.toList c.hk f (.try_ (.mk k' a' b' c' d' t' ks') (num + 1)) q σ' with
        | none => rw [he] at hpk; cases hpk
        | some r1 =>
        obtain ⟨o, σ2⟩ := r1
        rw [he] at hpk
        have hle := H.le
        have hbd := pk_bound _ _ _ _ _ _ _ _ _ he H.pos H.bound
        have hc0 := HC.out f q σ' (o, σ2) wr (by omega) he H.pos H.bound H.par H.keeps
        have HC0 := Lib.hid hc0
        have HPK := Lib.hid hpk
        have HBD := Lib.hid hbd
        have hkw := H.keeps
        have hxw := H.box
        clear hc0 hpk hbd he H
        go_wp2_with fail
        refine HC0.out.mono ?_
        rintro e' w3 ⟨⟨z, rfl, hz⟩, h1, h2⟩
        have hbx : Blk w3 w.heap.size 37 #[.int .i64 k, .int .u64 a, .int .u64 b, .int .u64 d1, .int .u64 d2, .string t, .slice (some ad) 1 kcp] := h2.box hxw (by decide) (by omega) (by omega)
        have hk2 : Keeps c w w3 := hkw.trans h2
        clear s0 s1 s2 s3 s4 s5 s6
        cases o with
        | none =>
          have hr' : r = (some q, σ2) := by have := HPK.out; simpa using this.symm
          subst hr'
          go_wp2
          go_ret2
          exact ⟨⟨q, rfl, fun to ht => by injection ht with ht; rw [ht]⟩, h1, hk2⟩
        | some to' =>
          obtain rfl := hz to' rfl
          have hnext : RepR c g (.mk k' a' b' c' d' t' ks') (num + 1) m r w w.heap.size #[.int .i64 k, .int .u64 a, .int .u64 b, .int .u64 d1, .int .u64 d2, .string t, .slice (some ad) 1 kcp] (.int .i64 to') w3 f := ⟨to', σ2, rfl, by omega, HPK, HBD.out.1 to' rfl, HBD.out.2, h1, hk2, hbx⟩
          go_wp2
          go_roundw
          case rel => exact ⟨f, hnext⟩
          case measure => rw [HL.out]; exact Nat.lt_of_le_of_lt ((leastN_spec ⟨f, hnext⟩).2 f hnext) (Nat.lt_succ_self f)
end Go.Proofs.Ytkmcnekjimobhaa
