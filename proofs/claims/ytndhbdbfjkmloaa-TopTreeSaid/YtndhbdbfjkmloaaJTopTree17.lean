/- What event.Build answers, of the events of a large tree (printed out of Tr8 by genbig.py). -/
import Derived.Test.YtndhbdbfjkmloaaJTopTree16
import Derived.Deep.RegionLaw
namespace Go.Proofs.Ytndhbdbfjkmloaa
open Go.RowKit

/-- what event.Build leaves -/
def BuildQ (l : List Ev) (w : World) (e : Ending) (w' : World) : Prop :=
  (∃ tc, (∃ t, bld l [] = some t ∧ e = .returned (.tuple #[.agg tc.toArray, .int .i64 0]) ∧ TrIs w' (· < w'.heap.size) t tc) ∨ (bld l [] = none ∧ e = .returned (.tuple #[.agg #[.int .i64 0, .int .i64 0, .int .i64 0, .slice none 0 0], .int .i64 3]))) ∧ Below w.heap.size w w'

theorem tr_info : (Try.prog.info? 38).map (fun i => (i.zero, i.size, i.bytes)) = some (some (.agg #[.int .i64 0, .int .i64 0, .int .i64 0, .slice none 0 0]), 4, 48) := by kernel_rfl

theorem bld_bad {k r a : Int} (es : List Ev) (st : List Fr) (h1 : k ≠ 1) (h : k ≠ 2 ∨ ∀ r' f' ks' st', st = (r', f', ks') :: st' → r' ≠ r) : bld ((k, r, a) :: es) st = none := by
  rw [bld.eq_def]
  dsimp only
  rw [if_neg h1]
  split
  · rfl
  · rename_i r' f' ks' st'
    rw [if_neg]
    rintro ⟨h2, h3⟩
    rcases h with h | h
    · exact h h2
    · exact h r' f' ks' st' rfl h3

theorem own_cap {w : World} {base : Nat} {e : TypeId} {size n m c : Nat} {V : Option Addr} {xs : List Value} (h : w.ownsRow base e size (.slice V m c) n xs) : m ≤ c ∧ c ≤ maxLen := by
  rcases h.2 with ⟨e, e2⟩ | ⟨g', c', cur, e, _, _, e1, e2, _⟩
  · simp only [Value.slice.injEq] at e
    rw [e.2.1, e.2.2]
    exact ⟨Nat.le_refl _, by unfold maxLen; omega⟩
  · simp only [Value.slice.injEq] at e
    rw [e.2.1, e.2.2]
    exact ⟨e1, e2⟩

theorem bldMem_start (w : World) (base : Nat) : BldMem w base [] none 0 0 [] [] (fun _ => False) :=
  ⟨rfl, ⟨rfl, .inl ⟨rfl, rfl⟩⟩, ⟨rfl, rfl⟩, List.nodup_nil, by simp, fun _ h => h.elim, fun _ h => h.elim⟩

set_option maxHeartbeats 4000000 in
set_option maxRecDepth 100000 in
theorem build_any (A : Option Addr) (n c : Nat) (l : List Ev) (B : Nat) (w : World) (hr : Reads w B 3 A n (evCells l)) (hB : B ≤ w.heap.size) (hn : n ≤ 5400000000000) (t0 : Tr) (ht0 : bld l [] = some t0) (hH : hiT t0 ≤ 1000) (hKi : kiT t0 ≤ 15000000) :
    Calls Try.prog 10 #[.slice A n c] w (BuildQ l w) := by
  obtain ⟨i0, hi0, hz0, hz1, hz2⟩ := info_parts tr_info
  have HL := Lib.hid hr.ev_len
  have HBND : Hid (∀ (rest : List Ev) (st : List Fr), bld l [] = bld rest st → st.length ≤ 1000 ∧ ∀ fr ∈ st, fr.2.2.length ≤ 15000000) := fun rest st h => by
    have := bld_bound rest st (h.symm.trans ht0)
    exact ⟨by omega, fun fr hfr => Nat.le_trans (this.2 fr hfr) hKi⟩
  clear ht0 hH hKi
  go_enter Try.func10, Try.ntmps10
  go_wp2
  go_loopw [4, 11] (fun v i wr => ∃ (j : Nat) (st : List Fr) (V : Option Addr) (m cp : Nat) (xs : List Value) (used : List Nat) (S : Nat → Prop), j ≤ n ∧ i = .int .i64 j ∧ v = .slice V m cp ∧ Hid (bld l [] = bld (l.drop j) st) ∧ (j = 0 → m = 0) ∧ (0 < j → 0 < m) ∧ m ≤ 1000 ∧ Hid (∀ fr ∈ st, fr.2.2.length ≤ 15000000) ∧
    Hid (BldMem wr (w.heap.size + 1) st V m cp xs used S) ∧ Below w.heap.size w wr ∧ Blk wr w.heap.size 38 #[.int .i64 0, .int .i64 0, .int .i64 0, .slice none 0 0]) (fun _ i _ => n - (intOf i).toNat)
  case atStart => exact ⟨0, [], none, 0, 0, [], [], fun _ => False, by omega, rfl, rfl, rfl, fun _ => rfl, fun h => by omega, by omega, (fun _ h => by cases h), bldMem_start _ _, (by repeat (first | exact Below.refl _ _ | assumption | refine Below.drew ?_ | refine below_drewN ?_ _ | refine Below.alloc ?_ (by first | omega | (simp; omega) | simp) _ | refine Below.setCell ?_ (by first | omega | (simp; omega) | simp) _)), blk_at rfl⟩
  case round =>
    obtain ⟨j, st, V, m, cp, xs, used, S, hj, rfl, rfl, HB, hm0, hm1, hmj, HK, HM, hwr, hbx⟩ := hrel
    have hwz := hwr.size
    have hbl := hbx.lt
    have z0 : wr.cell? ⟨w.heap.size, 0, none⟩ = some (.int .i64 0) := hbx.cell 0
    have z1 : wr.cell? ⟨w.heap.size, 1, none⟩ = some (.int .i64 0) := hbx.cell 1
    have z2 : wr.cell? ⟨w.heap.size, 2, none⟩ = some (.int .i64 0) := hbx.cell 2
    have z3 : wr.cell? ⟨w.heap.size, 3, none⟩ = some (.slice none 0 0) := hbx.cell 3
    have f0 := hbx.frozen 0
    have f1 := hbx.frozen 1
    have f2 := hbx.frozen 2
    have f3 := hbx.frozen 3
    by_cases hjn : j < n
    · obtain ⟨ad, k, a, b, rfl, hab, hg, e0, e1, e2⟩ := (hr.below (hwr.mono hB)).ev_at hjn
      have HD : Hid (l.drop j = (k, a, b) :: l.drop (j + 1)) := by
        show _ = _
        have l1 := getElem?_lt hg
        rw [List.getElem?_eq_getElem l1] at hg
        injection hg with hg
        rw [List.drop_eq_getElem_cons l1, hg]
      have hba : (ad.add (j * 3)).block < wr.heap.size := by omega
      clear hg
      by_cases hk1 : k = 1
      · subst hk1
        have HB2 : Hid (bld l [] = bld (l.drop (j + 1)) ((a, b, []) :: st)) := HB.out.trans (by rw [HD.out, bld_open])
        have hmb : m + 1 ≤ 1000 := by have h1 := (HBND.out _ _ HB2.out).1; have h2 := HM.out.cnt; simp at h1; omega
        have hjm : ((j : Int) == 0) = true ∨ (((j : Int) == 0) = false ∧ 0 < m) := by
          by_cases h : j = 0
          · exact .inl (by rw [beq_iff_eq]; omega)
          · exact .inr ⟨by rw [beq_eq_false_iff_ne]; omega, hm1 (by omega)⟩
        rcases hjm with hj0 | ⟨hj0, hmp⟩
        all_goals
          have HA : ∀ o1 o2 : Obj, Hid (BldMem ((wr.alloc o1).alloc o2) (w.heap.size + 1) st V m cp xs used S) := fun o1 o2 => HM.out.below (((Below.refl _ _).alloc (Nat.le_refl _) _).alloc (by simp) _)
          go_wp2_with (at_builtin; refine wpList_append_lies _ rfl _ _ _ rfl (w.heap.size + 1) 38 i0 _ 4 48 Try.underlying36 hi0 hz0 hz1 hz2 rfl (by omega) (.slice V m cp) m _ rfl (HA _ _).out.own ⟨wr.heap.size + 1, 0, none⟩ 1 1 [.int .i64 a, .int .i64 b, .int .i64 0, .slice none 0 0] rfl rfl (World.news_of_block (cs := #[.int .i64 a, .int .i64 b, .int .i64 0, .slice none 0 0]) (t := 38) (fr := (0, 0)) (blk_at (by simp))) (by simp [Value.oneCell']) (by omega) (by unfold maxLen; omega) (by omega) (by simp; omega) _ rfl ?_; intro g cap w1 hown1 hgrow hat hlt)
          go_roundw
          case rel =>
            exact ⟨j + 1, (a, b, []) :: st, some ⟨g, 0, none⟩, m + 1, cap, _, used, S, by omega, by go_num, rfl, HB2, fun h => by omega, fun _ => by omega, by omega, (HBND.out _ _ HB2.out).2, (HA _ _).out.push a b hown1 hgrow hat,
              below_app (by repeat (first | exact Below.refl _ _ | assumption | refine Below.drew ?_ | refine below_drewN ?_ _ | refine Below.alloc ?_ (by first | omega | (simp; omega) | simp) _ | refine Below.setCell ?_ (by first | omega | (simp; omega) | simp) _)) (HA _ _).out.own hgrow (by simp; omega) (by omega), ((hbx.alloc _).alloc _).grown hgrow (own_ne (HA (.cells #[.int .i64 1, .int .i64 a, .int .i64 b] 67) (.cells #[.int .i64 a, .int .i64 b, .int .i64 0, .slice none 0 0] 38)).out.own (by omega))⟩
          case measure => simp [intOf]; omega
      · have hk1' : (k == 1) = false := by rw [beq_eq_false_iff_ne]; exact hk1
        cases st with
        | nil =>
          have hm00 : m = 0 := HM.out.cnt
          subst hm00
          have HF : Hid (bld l [] = none) := HB.out.trans (by rw [HD.out]; exact bld_bad _ _ hk1 (.inr fun _ _ _ _ h => by cases h))
          cases hk2 : (k == 2)
          · go_wp2_with fail
            go_quiet (fail)
            have hbx1 : Blk ((wr.alloc (.cells #[.int .i64 k, .int .i64 a, .int .i64 b] 67)).drewN nq) w.heap.size 38 #[.int .i64 0, .int .i64 0, .int .i64 0, .slice none 0 0] := (hbx.alloc _).drewN _
            have hw1 : Below w.heap.size w ((wr.alloc (.cells #[.int .i64 k, .int .i64 a, .int .i64 b] 67)).drewN nq) := (by repeat (first | exact Below.refl _ _ | assumption | refine Below.drew ?_ | refine below_drewN ?_ _ | refine Below.alloc ?_ (by first | omega | (simp; omega) | simp) _ | refine Below.setCell ?_ (by first | omega | (simp; omega) | simp) _))
            generalize (wr.alloc (.cells #[.int .i64 k, .int .i64 a, .int .i64 b] 67)).drewN nq = W1 at hbx1 hw1 ⊢
            have f0 := hbx1.frozen 0
            have f1 := hbx1.frozen 1
            have f2 := hbx1.frozen 2
            have f3 := hbx1.frozen 3
            have z0 : W1.cell? ⟨w.heap.size, 0, none⟩ = some (.int .i64 0) := hbx1.cell 0
            have z1 : W1.cell? ⟨w.heap.size, 1, none⟩ = some (.int .i64 0) := hbx1.cell 1
            have z2 : W1.cell? ⟨w.heap.size, 2, none⟩ = some (.int .i64 0) := hbx1.cell 2
            have z3 : W1.cell? ⟨w.heap.size, 3, none⟩ = some (.slice none 0 0) := hbx1.cell 3
            have q0 : (W1.setCell ⟨w.heap.size, 0, none⟩ (.int .i64 0)).cell? ⟨w.heap.size, 0, none⟩ = some (.int .i64 0) := (hbx1.set_ 0 _).cell 0
            have q1 : ((W1.setCell ⟨w.heap.size, 0, none⟩ (.int .i64 0)).setCell ⟨w.heap.size, 1, none⟩ (.int .i64 0)).cell? ⟨w.heap.size, 1, none⟩ = some (.int .i64 0) := ((hbx1.set_ 0 _).set_ 1 _).cell 1
            have q2 : (((W1.setCell ⟨w.heap.size, 0, none⟩ (.int .i64 0)).setCell ⟨w.heap.size, 1, none⟩ (.int .i64 0)).setCell ⟨w.heap.size, 2, none⟩ (.int .i64 0)).cell? ⟨w.heap.size, 2, none⟩ = some (.int .i64 0) := (((hbx1.set_ 0 _).set_ 1 _).set_ 2 _).cell 2
            have q3 : ((((W1.setCell ⟨w.heap.size, 0, none⟩ (.int .i64 0)).setCell ⟨w.heap.size, 1, none⟩ (.int .i64 0)).setCell ⟨w.heap.size, 2, none⟩ (.int .i64 0)).setCell ⟨w.heap.size, 3, none⟩ (.slice none 0 0)).cell? ⟨w.heap.size, 3, none⟩ = some (.slice none 0 0) := ((((hbx1.set_ 0 _).set_ 1 _).set_ 2 _).set_ 3 _).cell 3
            go_wp2
            exact bodyPost_ret (v := .tuple #[.agg #[.int .i64 0, .int .i64 0, .int .i64 0, .slice none 0 0], .int .i64 3]) (by simp [results, Try.results10, go_sem, q0, q1, q2, q3]) rfl ⟨⟨[], .inr ⟨HF.out, rfl⟩⟩, (by repeat (first | exact Below.refl _ _ | assumption | refine Below.drew ?_ | refine below_drewN ?_ _ | refine Below.alloc ?_ (by first | omega | (simp; omega) | simp) _ | refine Below.setCell ?_ (by first | omega | (simp; omega) | simp) _))⟩
          · obtain rfl : k = 2 := by simpa using hk2
            go_wp2_with fail
            go_quiet (fail)
            have hbx1 : Blk ((wr.alloc (.cells #[.int .i64 2, .int .i64 a, .int .i64 b] 67)).drewN nq) w.heap.size 38 #[.int .i64 0, .int .i64 0, .int .i64 0, .slice none 0 0] := (hbx.alloc _).drewN _
            have hw1 : Below w.heap.size w ((wr.alloc (.cells #[.int .i64 2, .int .i64 a, .int .i64 b] 67)).drewN nq) := (by repeat (first | exact Below.refl _ _ | assumption | refine Below.drew ?_ | refine below_drewN ?_ _ | refine Below.alloc ?_ (by first | omega | (simp; omega) | simp) _ | refine Below.setCell ?_ (by first | omega | (simp; omega) | simp) _))
            generalize (wr.alloc (.cells #[.int .i64 2, .int .i64 a, .int .i64 b] 67)).drewN nq = W1 at hbx1 hw1 ⊢
            have f0 := hbx1.frozen 0
            have f1 := hbx1.frozen 1
            have f2 := hbx1.frozen 2
            have f3 := hbx1.frozen 3
            have z0 : W1.cell? ⟨w.heap.size, 0, none⟩ = some (.int .i64 0) := hbx1.cell 0
            have z1 : W1.cell? ⟨w.heap.size, 1, none⟩ = some (.int .i64 0) := hbx1.cell 1
            have z2 : W1.cell? ⟨w.heap.size, 2, none⟩ = some (.int .i64 0) := hbx1.cell 2
            have z3 : W1.cell? ⟨w.heap.size, 3, none⟩ = some (.slice none 0 0) := hbx1.cell 3
            have q0 : (W1.setCell ⟨w.heap.size, 0, none⟩ (.int .i64 0)).cell? ⟨w.heap.size, 0, none⟩ = some (.int .i64 0) := (hbx1.set_ 0 _).cell 0
            have q1 : ((W1.setCell ⟨w.heap.size, 0, none⟩ (.int .i64 0)).setCell ⟨w.heap.size, 1, none⟩ (.int .i64 0)).cell? ⟨w.heap.size, 1, none⟩ = some (.int .i64 0) := ((hbx1.set_ 0 _).set_ 1 _).cell 1
            have q2 : (((W1.setCell ⟨w.heap.size, 0, none⟩ (.int .i64 0)).setCell ⟨w.heap.size, 1, none⟩ (.int .i64 0)).setCell ⟨w.heap.size, 2, none⟩ (.int .i64 0)).cell? ⟨w.heap.size, 2, none⟩ = some (.int .i64 0) := (((hbx1.set_ 0 _).set_ 1 _).set_ 2 _).cell 2
            have q3 : ((((W1.setCell ⟨w.heap.size, 0, none⟩ (.int .i64 0)).setCell ⟨w.heap.size, 1, none⟩ (.int .i64 0)).setCell ⟨w.heap.size, 2, none⟩ (.int .i64 0)).setCell ⟨w.heap.size, 3, none⟩ (.slice none 0 0)).cell? ⟨w.heap.size, 3, none⟩ = some (.slice none 0 0) := ((((hbx1.set_ 0 _).set_ 1 _).set_ 2 _).set_ 3 _).cell 3
            go_wp2
            exact bodyPost_ret (v := .tuple #[.agg #[.int .i64 0, .int .i64 0, .int .i64 0, .slice none 0 0], .int .i64 3]) (by simp [results, Try.results10, go_sem, q0, q1, q2, q3]) rfl ⟨⟨[], .inr ⟨HF.out, rfl⟩⟩, (by repeat (first | exact Below.refl _ _ | assumption | refine Below.drew ?_ | refine below_drewN ?_ _ | refine Below.alloc ?_ (by first | omega | (simp; omega) | simp) _ | refine Below.setCell ?_ (by first | omega | (simp; omega) | simp) _))⟩
        | cons fr st =>
          obtain ⟨r, f, ks⟩ := fr
          obtain ⟨ys, KA, kc, used', g, hm', rfl, hgb, hgl, hxs, hys, hT, hpop⟩ := HM.out.pop
          subst hm'
          have ht0 : wr.cell? ⟨g, st.length * 4, none⟩ = some (.int .i64 r) := by
            rw [HM.out.own.cellAt _ (by omega), hxs, List.getElem?_append_right (by omega), hys, Nat.sub_self]; rfl
          have hsub : ((st.length + 1 : Nat) : Int) - 1 = (st.length : Int) := by omega
          have hj0 : ((j : Int) == 0) = false := by rw [beq_eq_false_iff_ne]; have := hm0; omega
          cases hk2 : (k == 2)
          · have HF : Hid (bld l [] = none) := HB.out.trans (by rw [HD.out]; exact bld_bad _ _ hk1 (.inl (by simpa using hk2)))
            go_wp2_with fail
            go_quiet (fail)
            have hbx1 : Blk ((wr.alloc (.cells #[.int .i64 k, .int .i64 a, .int .i64 b] 67)).drewN nq) w.heap.size 38 #[.int .i64 0, .int .i64 0, .int .i64 0, .slice none 0 0] := (hbx.alloc _).drewN _
            have hw1 : Below w.heap.size w ((wr.alloc (.cells #[.int .i64 k, .int .i64 a, .int .i64 b] 67)).drewN nq) := (by repeat (first | exact Below.refl _ _ | assumption | refine Below.drew ?_ | refine below_drewN ?_ _ | refine Below.alloc ?_ (by first | omega | (simp; omega) | simp) _ | refine Below.setCell ?_ (by first | omega | (simp; omega) | simp) _))
            generalize (wr.alloc (.cells #[.int .i64 k, .int .i64 a, .int .i64 b] 67)).drewN nq = W1 at hbx1 hw1 ⊢
            have f0 := hbx1.frozen 0
            have f1 := hbx1.frozen 1
            have f2 := hbx1.frozen 2
            have f3 := hbx1.frozen 3
            have z0 : W1.cell? ⟨w.heap.size, 0, none⟩ = some (.int .i64 0) := hbx1.cell 0
            have z1 : W1.cell? ⟨w.heap.size, 1, none⟩ = some (.int .i64 0) := hbx1.cell 1
            have z2 : W1.cell? ⟨w.heap.size, 2, none⟩ = some (.int .i64 0) := hbx1.cell 2
            have z3 : W1.cell? ⟨w.heap.size, 3, none⟩ = some (.slice none 0 0) := hbx1.cell 3
            have q0 : (W1.setCell ⟨w.heap.size, 0, none⟩ (.int .i64 0)).cell? ⟨w.heap.size, 0, none⟩ = some (.int .i64 0) := (hbx1.set_ 0 _).cell 0
            have q1 : ((W1.setCell ⟨w.heap.size, 0, none⟩ (.int .i64 0)).setCell ⟨w.heap.size, 1, none⟩ (.int .i64 0)).cell? ⟨w.heap.size, 1, none⟩ = some (.int .i64 0) := ((hbx1.set_ 0 _).set_ 1 _).cell 1
            have q2 : (((W1.setCell ⟨w.heap.size, 0, none⟩ (.int .i64 0)).setCell ⟨w.heap.size, 1, none⟩ (.int .i64 0)).setCell ⟨w.heap.size, 2, none⟩ (.int .i64 0)).cell? ⟨w.heap.size, 2, none⟩ = some (.int .i64 0) := (((hbx1.set_ 0 _).set_ 1 _).set_ 2 _).cell 2
            have q3 : ((((W1.setCell ⟨w.heap.size, 0, none⟩ (.int .i64 0)).setCell ⟨w.heap.size, 1, none⟩ (.int .i64 0)).setCell ⟨w.heap.size, 2, none⟩ (.int .i64 0)).setCell ⟨w.heap.size, 3, none⟩ (.slice none 0 0)).cell? ⟨w.heap.size, 3, none⟩ = some (.slice none 0 0) := ((((hbx1.set_ 0 _).set_ 1 _).set_ 2 _).set_ 3 _).cell 3
            go_wp2
            exact bodyPost_ret (v := .tuple #[.agg #[.int .i64 0, .int .i64 0, .int .i64 0, .slice none 0 0], .int .i64 3]) (by simp [results, Try.results10, go_sem, q0, q1, q2, q3]) rfl ⟨⟨[], .inr ⟨HF.out, rfl⟩⟩, (by repeat (first | exact Below.refl _ _ | assumption | refine Below.drew ?_ | refine below_drewN ?_ _ | refine Below.alloc ?_ (by first | omega | (simp; omega) | simp) _ | refine Below.setCell ?_ (by first | omega | (simp; omega) | simp) _))⟩
          obtain rfl : k = 2 := by simpa using hk2
          cases hra : (r == a)
          · have HF : Hid (bld l [] = none) := HB.out.trans (by rw [HD.out]; exact bld_bad _ _ hk1 (.inr fun r' f' ks' st' h => by injection h with h _; injection h with h _; subst h; simpa using hra))
            go_wp2_with fail
            go_quiet (fail)
            have hbx1 : Blk ((wr.alloc (.cells #[.int .i64 2, .int .i64 a, .int .i64 b] 67)).drewN nq) w.heap.size 38 #[.int .i64 0, .int .i64 0, .int .i64 0, .slice none 0 0] := (hbx.alloc _).drewN _
            have hw1 : Below w.heap.size w ((wr.alloc (.cells #[.int .i64 2, .int .i64 a, .int .i64 b] 67)).drewN nq) := (by repeat (first | exact Below.refl _ _ | assumption | refine Below.drew ?_ | refine below_drewN ?_ _ | refine Below.alloc ?_ (by first | omega | (simp; omega) | simp) _ | refine Below.setCell ?_ (by first | omega | (simp; omega) | simp) _))
            generalize (wr.alloc (.cells #[.int .i64 2, .int .i64 a, .int .i64 b] 67)).drewN nq = W1 at hbx1 hw1 ⊢
            have f0 := hbx1.frozen 0
            have f1 := hbx1.frozen 1
            have f2 := hbx1.frozen 2
            have f3 := hbx1.frozen 3
            have z0 : W1.cell? ⟨w.heap.size, 0, none⟩ = some (.int .i64 0) := hbx1.cell 0
            have z1 : W1.cell? ⟨w.heap.size, 1, none⟩ = some (.int .i64 0) := hbx1.cell 1
            have z2 : W1.cell? ⟨w.heap.size, 2, none⟩ = some (.int .i64 0) := hbx1.cell 2
            have z3 : W1.cell? ⟨w.heap.size, 3, none⟩ = some (.slice none 0 0) := hbx1.cell 3
            have q0 : (W1.setCell ⟨w.heap.size, 0, none⟩ (.int .i64 0)).cell? ⟨w.heap.size, 0, none⟩ = some (.int .i64 0) := (hbx1.set_ 0 _).cell 0
            have q1 : ((W1.setCell ⟨w.heap.size, 0, none⟩ (.int .i64 0)).setCell ⟨w.heap.size, 1, none⟩ (.int .i64 0)).cell? ⟨w.heap.size, 1, none⟩ = some (.int .i64 0) := ((hbx1.set_ 0 _).set_ 1 _).cell 1
            have q2 : (((W1.setCell ⟨w.heap.size, 0, none⟩ (.int .i64 0)).setCell ⟨w.heap.size, 1, none⟩ (.int .i64 0)).setCell ⟨w.heap.size, 2, none⟩ (.int .i64 0)).cell? ⟨w.heap.size, 2, none⟩ = some (.int .i64 0) := (((hbx1.set_ 0 _).set_ 1 _).set_ 2 _).cell 2
            have q3 : ((((W1.setCell ⟨w.heap.size, 0, none⟩ (.int .i64 0)).setCell ⟨w.heap.size, 1, none⟩ (.int .i64 0)).setCell ⟨w.heap.size, 2, none⟩ (.int .i64 0)).setCell ⟨w.heap.size, 3, none⟩ (.slice none 0 0)).cell? ⟨w.heap.size, 3, none⟩ = some (.slice none 0 0) := ((((hbx1.set_ 0 _).set_ 1 _).set_ 2 _).set_ 3 _).cell 3
            go_wp2
            exact bodyPost_ret (v := .tuple #[.agg #[.int .i64 0, .int .i64 0, .int .i64 0, .slice none 0 0], .int .i64 3]) (by simp [results, Try.results10, go_sem, q0, q1, q2, q3]) rfl ⟨⟨[], .inr ⟨HF.out, rfl⟩⟩, (by repeat (first | exact Below.refl _ _ | assumption | refine Below.drew ?_ | refine below_drewN ?_ _ | refine Below.alloc ?_ (by first | omega | (simp; omega) | simp) _ | refine Below.setCell ?_ (by first | omega | (simp; omega) | simp) _))⟩
          obtain rfl : r = a := by simpa using hra
          have HB2 : Hid (bld l [] = bldT (.mk r f b ks) (l.drop (j + 1)) st) := HB.out.trans (by rw [HD.out]; exact bld_close r f b ks _ st)
          have hcell : ∀ i u, [Value.int .i64 r, .int .i64 f, .int .i64 0, .slice KA ks.length kc][i]? = some u → wr.cell? ⟨g, st.length * 4 + i, none⟩ = some u := by
            intro i u hu
            have := getElem?_lt hu
            simp at this
            rw [HM.out.own.cellAt _ (by omega), hxs, List.getElem?_append_right (by omega), hys, Nat.add_sub_cancel_left]
            exact hu
          have t1 : wr.cell? ⟨g, st.length * 4 + 1, none⟩ = some (.int .i64 f) := hcell 1 _ rfl
          have t2 : wr.cell? ⟨g, st.length * 4 + 2, none⟩ = some (.int .i64 0) := hcell 2 _ rfl
          have t3 : wr.cell? ⟨g, st.length * 4 + 3, none⟩ = some (.slice KA ks.length kc) := hcell 3 _ rfl
          have hbg : g ≠ w.heap.size := by omega
          clear hcell
          obtain ⟨hqc, hcm⟩ := own_cap HM.out.own
          unfold maxLen at hcm
          generalize hq : st.length = q at t1 t2 t3 ht0 hsub hmj hm1 hys hpop hqc ⊢
          go_wp2_with fail
          go_quiet (fail)
          cases hq0 : ((q : Int) == 0)
          · go_wp2_with fail
            go_region
            · have hb1 : Below wr.heap.size wr (((((wr.alloc (.cells #[.int .i64 2, .int .i64 r, .int .i64 b] 67)).drewN nq).alloc (.cells #[.int .i64 r, .int .i64 f, .int .i64 b, .slice KA ks.length kc] 38)).alloc (.cells #[.bool false] 4)).drew) := ((((Below.refl _ _).alloc (Nat.le_refl _) _ |> fun h => below_drewN h nq).alloc (by simp) _).alloc (by simp; omega) _).drew
              have hxt : Blk (((((wr.alloc (.cells #[.int .i64 2, .int .i64 r, .int .i64 b] 67)).drewN nq).alloc (.cells #[.int .i64 r, .int .i64 f, .int .i64 b, .slice KA ks.length kc] 38)).alloc (.cells #[.bool false] 4)).drew) (wr.heap.size + 1) 38 #[.int .i64 r, .int .i64 f, .int .i64 b, .slice KA ks.length kc] := ((blk_at (by simp)).alloc _).drew
              generalize ((((wr.alloc (.cells #[.int .i64 2, .int .i64 r, .int .i64 b] 67)).drewN nq).alloc (.cells #[.int .i64 r, .int .i64 f, .int .i64 b, .slice KA ks.length kc] 38)).alloc (.cells #[.bool false] 4)).drew = W1 at hb1 hxt ⊢
              obtain ⟨fr2, st2, rfl⟩ : ∃ fr2 st2, st = fr2 :: st2 := by
                cases st with
                | nil => (simp at hq; subst hq; simp at hq0)
                | cons x y => exact ⟨x, y, rfl⟩
              obtain ⟨r2, f2, ks2⟩ := fr2
              obtain ⟨ys2, KA2, kc2, kxs2, used2, rfl, hTop⟩ := hpop.top
              have hxne : some (wr.heap.size + 1) ≠ (Value.slice KA2 ks2.length kc2).ownBlock := fun e => by
                have := (hTop.kown.lt _ e.symm).2
                omega
              replace hTop := hTop.below hb1
              have x0 : W1.cell? ⟨wr.heap.size + 1, 0, none⟩ = some (.int .i64 r) := hxt.cell 0
              have x1 : W1.cell? ⟨wr.heap.size + 1, 1, none⟩ = some (.int .i64 f) := hxt.cell 1
              have x2 : W1.cell? ⟨wr.heap.size + 1, 2, none⟩ = some (.int .i64 b) := hxt.cell 2
              have x3 : W1.cell? ⟨wr.heap.size + 1, 3, none⟩ = some (.slice KA ks.length kc) := hxt.cell 3
              have hxl := hxt.lt
              have hTr : TrIs W1 (fun b => S b ∨ some b = (Value.slice KA ks.length kc).ownBlock) (.mk r f b ks) [.int .i64 r, .int .i64 f, .int .i64 b, .slice KA ks.length kc] := (hT b).keep (fun _ h => h) (fun p hp => hb1.cell (hpop.sep _ hp).1)
              have HB3 : Hid (bld l [] = bld (l.drop (j + 1)) ((r2, f2, ks2 ++ [.mk r f b ks]) :: st2)) := HB2.out
              have HKN : Hid (∀ fr ∈ (r2, f2, ks2 ++ [Tr.mk r f b ks]) :: st2, fr.2.2.length ≤ 15000000) := (HBND.out _ _ HB3.out).2
              have hn2 : ks2.length ≤ 15000000 := HK.out (r2, f2, ks2) (by simp)
              have hWs := hb1.size
              obtain ⟨p, hp⟩ : ∃ p, st2.length = p := ⟨_, rfl⟩
              have hpq : q = p + 1 := by rw [← hp]; exact hTop.cnt
              have hqp : (q : Int) - 1 = (p : Int) := by omega
              have hp0 : (0 : Int) ≤ (p : Int) := by omega
              have hwp : IntKind.i64.wrap (p : Int) = (p : Int) := IntWalk.i64_in _ (by omega)
              have hp1 : (p : Int) < (q : Int) := by omega
              have hlty := hTop.ylen
              have k3 : W1.cell? ⟨g, p * 4 + 3, none⟩ = some (.slice KA2 ks2.length kc2) := by
                rw [hTop.own.cellAt _ (by omega), List.getElem?_append_right (by omega), hlty, hp, Nat.add_sub_cancel_left]; rfl
              have HZ : Hid ((∀ w1 o, ((W1.drew).alloc o).grownBy w1 (Value.slice KA2 ks2.length kc2).ownBlock → w1.frozen? ⟨g, p * 4 + 3, none⟩ = false) ∧ (∀ w1 o, ((W1.drew).alloc o).grownBy w1 (Value.slice KA2 ks2.length kc2).ownBlock → w1.cell? ⟨g, p * 4 + 3, none⟩ = some (.slice KA2 ks2.length kc2))) := by
                refine ⟨fun w1 o hg => ?_, fun w1 o hg => ?_⟩
                · exact (hTop.own1 (((Below.refl W1.heap.size W1).drew).alloc (Nat.le_refl _) o) hg).frozenAt _
                · rw [(hTop.own1 (((Below.refl W1.heap.size W1).drew).alloc (Nat.le_refl _) o) hg).cellAt _ (by omega), List.getElem?_append_right (by omega), hlty, hp, Nat.add_sub_cancel_left]; rfl
              have HWA : ∀ {o : Obj}, Hid (Below W1.heap.size W1 (W1.alloc o).drew) := ((Below.refl _ _).alloc (Nat.le_refl _) _).drew
              have HW2 : Hid (∀ {w1 : World} {o : Obj} {g1 n1 c1 : Nat} {xs1 : List Value}, w1.ownsRow (w.heap.size + 1) 38 4 (.slice (some ⟨g1, 0, none⟩) n1 c1) n1 xs1 → (W1.alloc o).drew.grownBy w1 (Value.slice KA2 ks2.length kc2).ownBlock → ∀ (i : Nat) (u : Value), Below w.heap.size w (w1.setCell ⟨g, i, none⟩ u)) := fun _ hg i u => (below_app (((hwr.trans (hb1.mono hwr.size)).alloc (Nat.le_trans hwr.size hb1.size) _).drew) (hTop.kown.alloc _).drew hg (by simp; omega) (by omega)).setCell (by simp; omega) _
              have HBX : Hid (∀ {w1 : World} {o : Obj}, (W1.alloc o).drew.grownBy w1 (Value.slice KA2 ks2.length kc2).ownBlock → ∀ (i : Nat) (u : Value), Blk (w1.setCell ⟨g, i, none⟩ u) w.heap.size 38 #[.int .i64 0, .int .i64 0, .int .i64 0, .slice none 0 0]) := fun hg i u => ((((hbx.below hb1 hbl).alloc _).drew).grown hg (own_ne hTop.kown (by omega))).far (by simp; omega) _
              have HO : Hid (W1.drew.ownsRow (w.heap.size + 1) 38 4 (.slice KA2 ks2.length kc2) ks2.length kxs2) := hTop.kown.drew
              have HT := Lib.hid hTop
              clear hTop
              have hp2 : p < q := by omega
              have hgW : g < W1.heap.size := by omega
              have hgW2 : g ≠ W1.heap.size := by omega
              have HPQ := Lib.hid hpq
              clear hpq
              generalize hn2' : ks2.length = n2 at k3 HZ hxne HO hn2
              go_wp2_with fail
              go_region_law
                ((refine step_append_lies _ (by rfl) _ _ _ (by rfl) (w.heap.size + 1) 38 i0 _ 4 48 Try.underlying36 hi0 hz0 hz1 hz2 rfl (by omega) (.slice KA2 n2 kc2) n2 _ (by rfl) (HO.out.alloc _).drew
                   ⟨W1.heap.size, 0, none⟩ 1 1 [.int .i64 r, .int .i64 f, .int .i64 b, .slice KA ks.length kc] (by rfl) (by rfl) (World.news_of_block (cs := #[.int .i64 r, .int .i64 f, .int .i64 b, .slice KA ks.length kc]) (t := 38) (fr := (0, 0)) (heap_alloc_new W1 _)) (by simp [Value.oneCell'])
                   (by omega) (by unfold maxLen; omega) (by omega) (by simp; omega) (W1.heap.size + 1) (by simp) ?_; intro g1 cap1 w1 hown1 hgrow hat hlt
                  have hfz := HZ.out.1 w1 _ hgrow; have hcz := HZ.out.2 w1 _ hgrow))
              all_goals
                subst hn2'
                go_wp2
                go_roundw
                case rel =>
                  exact ⟨j + 1, (r2, f2, ks2 ++ [.mk r f b ks]) :: st2, some ⟨g, 0, none⟩, q, cp, _, _, _, by omega, by go_num, rfl, HB3, fun h => by omega, fun _ => by omega, by omega, HKN,
                    Lib.hid (HT.out.kid20 hTr HWA.out hown1 hgrow (hat.imp id fun e => by rw [e]; simp) hp), HW2.out hown1 hgrow _ _, HBX.out hgrow _ _⟩
                case measure => simp [intOf]; omega
            · have hb1 : Below wr.heap.size wr (((((wr.alloc (.cells #[.int .i64 2, .int .i64 r, .int .i64 b] 67)).drewN nq).alloc (.cells #[.int .i64 r, .int .i64 f, .int .i64 b, .slice KA ks.length kc] 38)).alloc (.cells #[.bool true] 4)).drew) := ((((Below.refl _ _).alloc (Nat.le_refl _) _ |> fun h => below_drewN h nq).alloc (by simp) _).alloc (by simp; omega) _).drew
              have hxt : Blk (((((wr.alloc (.cells #[.int .i64 2, .int .i64 r, .int .i64 b] 67)).drewN nq).alloc (.cells #[.int .i64 r, .int .i64 f, .int .i64 b, .slice KA ks.length kc] 38)).alloc (.cells #[.bool true] 4)).drew) (wr.heap.size + 1) 38 #[.int .i64 r, .int .i64 f, .int .i64 b, .slice KA ks.length kc] := ((blk_at (by simp)).alloc _).drew
              generalize ((((wr.alloc (.cells #[.int .i64 2, .int .i64 r, .int .i64 b] 67)).drewN nq).alloc (.cells #[.int .i64 r, .int .i64 f, .int .i64 b, .slice KA ks.length kc] 38)).alloc (.cells #[.bool true] 4)).drew = W1 at hb1 hxt ⊢
              obtain ⟨fr2, st2, rfl⟩ : ∃ fr2 st2, st = fr2 :: st2 := by
                cases st with
                | nil => (simp at hq; subst hq; simp at hq0)
                | cons x y => exact ⟨x, y, rfl⟩
              obtain ⟨r2, f2, ks2⟩ := fr2
              obtain ⟨ys2, KA2, kc2, kxs2, used2, rfl, hTop⟩ := hpop.top
              have hxne : some (wr.heap.size + 1) ≠ (Value.slice KA2 ks2.length kc2).ownBlock := fun e => by
                have := (hTop.kown.lt _ e.symm).2
                omega
              replace hTop := hTop.below hb1
              have x0 : W1.cell? ⟨wr.heap.size + 1, 0, none⟩ = some (.int .i64 r) := hxt.cell 0
              have x1 : W1.cell? ⟨wr.heap.size + 1, 1, none⟩ = some (.int .i64 f) := hxt.cell 1
              have x2 : W1.cell? ⟨wr.heap.size + 1, 2, none⟩ = some (.int .i64 b) := hxt.cell 2
              have x3 : W1.cell? ⟨wr.heap.size + 1, 3, none⟩ = some (.slice KA ks.length kc) := hxt.cell 3
              have hxl := hxt.lt
              have hTr : TrIs W1 (fun b => S b ∨ some b = (Value.slice KA ks.length kc).ownBlock) (.mk r f b ks) [.int .i64 r, .int .i64 f, .int .i64 b, .slice KA ks.length kc] := (hT b).keep (fun _ h => h) (fun p hp => hb1.cell (hpop.sep _ hp).1)
              have HB3 : Hid (bld l [] = bld (l.drop (j + 1)) ((r2, f2, ks2 ++ [.mk r f b ks]) :: st2)) := HB2.out
              have HKN : Hid (∀ fr ∈ (r2, f2, ks2 ++ [Tr.mk r f b ks]) :: st2, fr.2.2.length ≤ 15000000) := (HBND.out _ _ HB3.out).2
              have hn2 : ks2.length ≤ 15000000 := HK.out (r2, f2, ks2) (by simp)
              have hWs := hb1.size
              obtain ⟨p, hp⟩ : ∃ p, st2.length = p := ⟨_, rfl⟩
              have hpq : q = p + 1 := by rw [← hp]; exact hTop.cnt
              have hqp : (q : Int) - 1 = (p : Int) := by omega
              have hp0 : (0 : Int) ≤ (p : Int) := by omega
              have hwp : IntKind.i64.wrap (p : Int) = (p : Int) := IntWalk.i64_in _ (by omega)
              have hp1 : (p : Int) < (q : Int) := by omega
              have hlty := hTop.ylen
              have k3 : W1.cell? ⟨g, p * 4 + 3, none⟩ = some (.slice KA2 ks2.length kc2) := by
                rw [hTop.own.cellAt _ (by omega), List.getElem?_append_right (by omega), hlty, hp, Nat.add_sub_cancel_left]; rfl
              have HZ : Hid ((∀ w1 o, ((W1.drew).alloc o).grownBy w1 (Value.slice KA2 ks2.length kc2).ownBlock → w1.frozen? ⟨g, p * 4 + 3, none⟩ = false) ∧ (∀ w1 o, ((W1.drew).alloc o).grownBy w1 (Value.slice KA2 ks2.length kc2).ownBlock → w1.cell? ⟨g, p * 4 + 3, none⟩ = some (.slice KA2 ks2.length kc2))) := by
                refine ⟨fun w1 o hg => ?_, fun w1 o hg => ?_⟩
                · exact (hTop.own1 (((Below.refl W1.heap.size W1).drew).alloc (Nat.le_refl _) o) hg).frozenAt _
                · rw [(hTop.own1 (((Below.refl W1.heap.size W1).drew).alloc (Nat.le_refl _) o) hg).cellAt _ (by omega), List.getElem?_append_right (by omega), hlty, hp, Nat.add_sub_cancel_left]; rfl
              have HWA : ∀ {o : Obj}, Hid (Below W1.heap.size W1 (W1.alloc o).drew) := ((Below.refl _ _).alloc (Nat.le_refl _) _).drew
              have HW2 : Hid (∀ {w1 : World} {o : Obj} {g1 n1 c1 : Nat} {xs1 : List Value}, w1.ownsRow (w.heap.size + 1) 38 4 (.slice (some ⟨g1, 0, none⟩) n1 c1) n1 xs1 → (W1.alloc o).drew.grownBy w1 (Value.slice KA2 ks2.length kc2).ownBlock → ∀ (i : Nat) (u : Value), Below w.heap.size w (w1.setCell ⟨g, i, none⟩ u)) := fun _ hg i u => (below_app (((hwr.trans (hb1.mono hwr.size)).alloc (Nat.le_trans hwr.size hb1.size) _).drew) (hTop.kown.alloc _).drew hg (by simp; omega) (by omega)).setCell (by simp; omega) _
              have HBX : Hid (∀ {w1 : World} {o : Obj}, (W1.alloc o).drew.grownBy w1 (Value.slice KA2 ks2.length kc2).ownBlock → ∀ (i : Nat) (u : Value), Blk (w1.setCell ⟨g, i, none⟩ u) w.heap.size 38 #[.int .i64 0, .int .i64 0, .int .i64 0, .slice none 0 0]) := fun hg i u => ((((hbx.below hb1 hbl).alloc _).drew).grown hg (own_ne hTop.kown (by omega))).far (by simp; omega) _
              have HO : Hid (W1.drew.ownsRow (w.heap.size + 1) 38 4 (.slice KA2 ks2.length kc2) ks2.length kxs2) := hTop.kown.drew
              have HT := Lib.hid hTop
              clear hTop
              have hp2 : p < q := by omega
              have hgW : g < W1.heap.size := by omega
              have hgW2 : g ≠ W1.heap.size := by omega
              have HPQ := Lib.hid hpq
              clear hpq
              generalize hn2' : ks2.length = n2 at k3 HZ hxne HO hn2
              go_wp2_with fail
              go_region_law
                ((refine step_append_lies _ (by rfl) _ _ _ (by rfl) (w.heap.size + 1) 38 i0 _ 4 48 Try.underlying36 hi0 hz0 hz1 hz2 rfl (by omega) (.slice KA2 n2 kc2) n2 _ (by rfl) (HO.out.alloc _).drew
                   ⟨W1.heap.size, 0, none⟩ 1 1 [.int .i64 0, .int .i64 0, .int .i64 0, .slice none 0 0] (by rfl) (by rfl) (World.news_of_block (cs := #[.int .i64 0, .int .i64 0, .int .i64 0, .slice none 0 0]) (t := 38) (fr := (0, 0)) (heap_alloc_new W1 _)) (by simp [Value.oneCell'])
                   (by omega) (by unfold maxLen; omega) (by omega) (by simp; omega) (W1.heap.size + 1) (by simp) ?_; intro g1 cap1 w1 hown1 hgrow hat hlt
                  have hfz := HZ.out.1 w1 _ hgrow; have hcz := HZ.out.2 w1 _ hgrow))
              all_goals
                subst hn2'
                have hne := HT.out.ne1 (HWA (o := .cells #[.int .i64 0, .int .i64 0, .int .i64 0, .slice none 0 0] 38)).out (hat.imp id fun e => by rw [e]; simp)
                have hkl := HT.out.kown.1
                generalize hn2' : ks2.length = n2 at hown1 hgrow hat hfz hcz hn2 hkl ⊢
                have z0 : w1.cell? ⟨g1, n2 * 4, none⟩ = some (.int .i64 0) := by rw [hown1.cellAt _ (by omega), List.getElem?_append_right (by omega), hkl, Nat.sub_self]; rfl
                have z1 : w1.cell? ⟨g1, n2 * 4 + 1, none⟩ = some (.int .i64 0) := by rw [hown1.cellAt _ (by omega), List.getElem?_append_right (by omega), hkl, Nat.add_sub_cancel_left]; rfl
                have z2 : w1.cell? ⟨g1, n2 * 4 + 2, none⟩ = some (.int .i64 0) := by rw [hown1.cellAt _ (by omega), List.getElem?_append_right (by omega), hkl, Nat.add_sub_cancel_left]; rfl
                have z3 : w1.cell? ⟨g1, n2 * 4 + 3, none⟩ = some (.slice none 0 0) := by rw [hown1.cellAt _ (by omega), List.getElem?_append_right (by omega), hkl, Nat.add_sub_cancel_left]; rfl
                have zf0 := hown1.frozenAt (n2 * 4)
                have zf1 := hown1.frozenAt (n2 * 4 + 1)
                have zf2 := hown1.frozenAt (n2 * 4 + 2)
                have zf3 := hown1.frozenAt (n2 * 4 + 3)
                have hne2 := Ne.symm hne
                go_wp2
                go_roundw
                case rel =>
                  subst hn2'
                  have hg1 := (hown1.lt g1 rfl).1
                  exact ⟨j + 1, (r2, f2, ks2 ++ [.mk r f b ks]) :: st2, some ⟨g, 0, none⟩, q, cp, _, _, _, by omega, by go_num, rfl, HB3, fun h => by omega, fun _ => by omega, by omega, HKN,
                    Lib.hid (HT.out.kid18 hTr HWA.out hown1 hgrow (hat.imp id fun e => by rw [e]; simp) hp rfl),
                    ((((HW2.out hown1 hgrow _ _).setCell (by simp; omega) _).setCell (by simp; omega) _).setCell (by simp; omega) _).setCell (by simp; omega) _,
                    ((((HBX.out hgrow _ _).far (by simp; omega) _).far (by simp; omega) _).far (by simp; omega) _).far (by simp; omega) _⟩
                case measure => simp [intOf]; omega
          · have HS : Hid (st = []) := by
              show _ = _
              obtain rfl : q = 0 := by simpa using hq0
              exact List.length_eq_zero_iff.1 hq
            by_cases hlast : j + 1 < n
            · have hl1 : (j : Int) < (n : Int) - 1 := by omega
              have HF : Hid (bld l [] = none) := HB2.out.trans (by
                  rw [HS.out]
                  show (if l.drop (j + 1) = [] then _ else _) = _
                  rw [if_neg]
                  intro e
                  have := congrArg List.length e
                  rw [List.length_drop, HL.out] at this
                  simp at this
                  omega)
              go_wp2_with fail
              have hbz : Blk (((((((wr.alloc (.cells #[.int .i64 2, .int .i64 r, .int .i64 b] 67)).drewN nq).setCell ⟨w.heap.size, 0, none⟩ (.int .i64 0)).setCell ⟨w.heap.size, 1, none⟩ (.int .i64 0)).setCell ⟨w.heap.size, 2, none⟩ (.int .i64 0)).setCell ⟨w.heap.size, 3, none⟩ (.slice none 0 0)).alloc (.cells #[.int .i64 r, .int .i64 f, .int .i64 b, .slice KA ks.length kc] 38)) w.heap.size 38 #[.int .i64 0, .int .i64 0, .int .i64 0, .slice none 0 0] := ((((((hbx.alloc _).drewN nq).set_ 0 (.int .i64 0)).set_ 1 (.int .i64 0)).set_ 2 (.int .i64 0)).set_ 3 (.slice none 0 0)).alloc _
              have hw9 : Below w.heap.size w (((((((wr.alloc (.cells #[.int .i64 2, .int .i64 r, .int .i64 b] 67)).drewN nq).setCell ⟨w.heap.size, 0, none⟩ (.int .i64 0)).setCell ⟨w.heap.size, 1, none⟩ (.int .i64 0)).setCell ⟨w.heap.size, 2, none⟩ (.int .i64 0)).setCell ⟨w.heap.size, 3, none⟩ (.slice none 0 0)).alloc (.cells #[.int .i64 r, .int .i64 f, .int .i64 b, .slice KA ks.length kc] 38)) := (by repeat (first | exact Below.refl _ _ | assumption | refine Below.drew ?_ | refine below_drewN ?_ _ | refine Below.alloc ?_ (by first | omega | (simp; omega) | simp) _ | refine Below.setCell ?_ (by first | omega | (simp; omega) | simp) _))
              have hT9 : TrIs (((((((wr.alloc (.cells #[.int .i64 2, .int .i64 r, .int .i64 b] 67)).drewN nq).setCell ⟨w.heap.size, 0, none⟩ (.int .i64 0)).setCell ⟨w.heap.size, 1, none⟩ (.int .i64 0)).setCell ⟨w.heap.size, 2, none⟩ (.int .i64 0)).setCell ⟨w.heap.size, 3, none⟩ (.slice none 0 0)).alloc (.cells #[.int .i64 r, .int .i64 f, .int .i64 b, .slice KA ks.length kc] 38)) (· < ((((((((wr.alloc (.cells #[.int .i64 2, .int .i64 r, .int .i64 b] 67)).drewN nq).setCell ⟨w.heap.size, 0, none⟩ (.int .i64 0)).setCell ⟨w.heap.size, 1, none⟩ (.int .i64 0)).setCell ⟨w.heap.size, 2, none⟩ (.int .i64 0)).setCell ⟨w.heap.size, 3, none⟩ (.slice none 0 0)).alloc (.cells #[.int .i64 r, .int .i64 f, .int .i64 b, .slice KA ks.length kc] 38))).heap.size) (.mk r f b ks) [.int .i64 r, .int .i64 f, .int .i64 b, .slice KA ks.length kc] := by
                refine (hT b).keep (fun x hx => ?_) (fun p hp => World.cell?_of_block ?_)
                · have := (hpop.sep _ hx).1
                  simp
                  omega
                · have h1 := (hpop.sep _ hp).1
                  have h2 := hpop.low _ hp
                  rw [Below.heap_alloc _ _ _ (by simp; omega), Below.heap_setCell _ _ _ _ (by simp; omega), Below.heap_setCell _ _ _ _ (by simp; omega), Below.heap_setCell _ _ _ _ (by simp; omega), Below.heap_setCell _ _ _ _ (by simp; omega)]
                  exact Below.heap_alloc _ _ _ h1
              generalize (((((((wr.alloc (.cells #[.int .i64 2, .int .i64 r, .int .i64 b] 67)).drewN nq).setCell ⟨w.heap.size, 0, none⟩ (.int .i64 0)).setCell ⟨w.heap.size, 1, none⟩ (.int .i64 0)).setCell ⟨w.heap.size, 2, none⟩ (.int .i64 0)).setCell ⟨w.heap.size, 3, none⟩ (.slice none 0 0)).alloc (.cells #[.int .i64 r, .int .i64 f, .int .i64 b, .slice KA ks.length kc] 38)) = W9 at hbz hw9 hT9 ⊢
              have q0 : W9.cell? ⟨w.heap.size, 0, none⟩ = some (.int .i64 0) := hbz.cell 0
              have q1 : W9.cell? ⟨w.heap.size, 1, none⟩ = some (.int .i64 0) := hbz.cell 1
              have q2 : W9.cell? ⟨w.heap.size, 2, none⟩ = some (.int .i64 0) := hbz.cell 2
              have q3 : W9.cell? ⟨w.heap.size, 3, none⟩ = some (.slice none 0 0) := hbz.cell 3
              exact bodyPost_ret (v := .tuple #[.agg #[.int .i64 0, .int .i64 0, .int .i64 0, .slice none 0 0], .int .i64 3]) (by simp [results, Try.results10, go_sem, q0, q1, q2, q3]) rfl ⟨⟨[], .inr ⟨HF.out, rfl⟩⟩, hw9⟩
            · have hl1 : ¬ (j : Int) < (n : Int) - 1 := by omega
              have HF : Hid (bld l [] = some (.mk r f b ks)) := HB2.out.trans (by
                  rw [HS.out, List.drop_of_length_le (by rw [HL.out]; omega)]
                  rfl)
              go_wp2_with fail
              have hbz : Blk (((((((wr.alloc (.cells #[.int .i64 2, .int .i64 r, .int .i64 b] 67)).drewN nq).setCell ⟨w.heap.size, 0, none⟩ (.int .i64 r)).setCell ⟨w.heap.size, 1, none⟩ (.int .i64 f)).setCell ⟨w.heap.size, 2, none⟩ (.int .i64 b)).setCell ⟨w.heap.size, 3, none⟩ (.slice KA ks.length kc)).alloc (.cells #[.int .i64 r, .int .i64 f, .int .i64 b, .slice KA ks.length kc] 38)) w.heap.size 38 #[.int .i64 r, .int .i64 f, .int .i64 b, .slice KA ks.length kc] := ((((((hbx.alloc _).drewN nq).set_ 0 (.int .i64 r)).set_ 1 (.int .i64 f)).set_ 2 (.int .i64 b)).set_ 3 (.slice KA ks.length kc)).alloc _
              have hw9 : Below w.heap.size w (((((((wr.alloc (.cells #[.int .i64 2, .int .i64 r, .int .i64 b] 67)).drewN nq).setCell ⟨w.heap.size, 0, none⟩ (.int .i64 r)).setCell ⟨w.heap.size, 1, none⟩ (.int .i64 f)).setCell ⟨w.heap.size, 2, none⟩ (.int .i64 b)).setCell ⟨w.heap.size, 3, none⟩ (.slice KA ks.length kc)).alloc (.cells #[.int .i64 r, .int .i64 f, .int .i64 b, .slice KA ks.length kc] 38)) := (by repeat (first | exact Below.refl _ _ | assumption | refine Below.drew ?_ | refine below_drewN ?_ _ | refine Below.alloc ?_ (by first | omega | (simp; omega) | simp) _ | refine Below.setCell ?_ (by first | omega | (simp; omega) | simp) _))
              have hT9 : TrIs (((((((wr.alloc (.cells #[.int .i64 2, .int .i64 r, .int .i64 b] 67)).drewN nq).setCell ⟨w.heap.size, 0, none⟩ (.int .i64 r)).setCell ⟨w.heap.size, 1, none⟩ (.int .i64 f)).setCell ⟨w.heap.size, 2, none⟩ (.int .i64 b)).setCell ⟨w.heap.size, 3, none⟩ (.slice KA ks.length kc)).alloc (.cells #[.int .i64 r, .int .i64 f, .int .i64 b, .slice KA ks.length kc] 38)) (· < ((((((((wr.alloc (.cells #[.int .i64 2, .int .i64 r, .int .i64 b] 67)).drewN nq).setCell ⟨w.heap.size, 0, none⟩ (.int .i64 r)).setCell ⟨w.heap.size, 1, none⟩ (.int .i64 f)).setCell ⟨w.heap.size, 2, none⟩ (.int .i64 b)).setCell ⟨w.heap.size, 3, none⟩ (.slice KA ks.length kc)).alloc (.cells #[.int .i64 r, .int .i64 f, .int .i64 b, .slice KA ks.length kc] 38))).heap.size) (.mk r f b ks) [.int .i64 r, .int .i64 f, .int .i64 b, .slice KA ks.length kc] := by
                refine (hT b).keep (fun x hx => ?_) (fun p hp => World.cell?_of_block ?_)
                · have := (hpop.sep _ hx).1
                  simp
                  omega
                · have h1 := (hpop.sep _ hp).1
                  have h2 := hpop.low _ hp
                  rw [Below.heap_alloc _ _ _ (by simp; omega), Below.heap_setCell _ _ _ _ (by simp; omega), Below.heap_setCell _ _ _ _ (by simp; omega), Below.heap_setCell _ _ _ _ (by simp; omega), Below.heap_setCell _ _ _ _ (by simp; omega)]
                  exact Below.heap_alloc _ _ _ h1
              generalize (((((((wr.alloc (.cells #[.int .i64 2, .int .i64 r, .int .i64 b] 67)).drewN nq).setCell ⟨w.heap.size, 0, none⟩ (.int .i64 r)).setCell ⟨w.heap.size, 1, none⟩ (.int .i64 f)).setCell ⟨w.heap.size, 2, none⟩ (.int .i64 b)).setCell ⟨w.heap.size, 3, none⟩ (.slice KA ks.length kc)).alloc (.cells #[.int .i64 r, .int .i64 f, .int .i64 b, .slice KA ks.length kc] 38)) = W9 at hbz hw9 hT9 ⊢
              have q0 : W9.cell? ⟨w.heap.size, 0, none⟩ = some (.int .i64 r) := hbz.cell 0
              have q1 : W9.cell? ⟨w.heap.size, 1, none⟩ = some (.int .i64 f) := hbz.cell 1
              have q2 : W9.cell? ⟨w.heap.size, 2, none⟩ = some (.int .i64 b) := hbz.cell 2
              have q3 : W9.cell? ⟨w.heap.size, 3, none⟩ = some (.slice KA ks.length kc) := hbz.cell 3
              exact bodyPost_ret (v := .tuple #[.agg #[.int .i64 r, .int .i64 f, .int .i64 b, .slice KA ks.length kc], .int .i64 0]) (by simp [results, Try.results10, go_sem, q0, q1, q2, q3]) rfl ⟨⟨[.int .i64 r, .int .i64 f, .int .i64 b, .slice KA ks.length kc], .inl ⟨_, HF.out, rfl, hT9⟩⟩, hw9⟩
    · obtain rfl : j = n := by omega
      have HF : Hid (bld l [] = none) := HB.out.trans (by rw [List.drop_of_length_le (by rw [HL.out]; omega), bld])
      have q0 : (wr.setCell ⟨w.heap.size, 0, none⟩ (.int .i64 0)).cell? ⟨w.heap.size, 0, none⟩ = some (.int .i64 0) := (hbx.set_ 0 _).cell 0
      have q1 : ((wr.setCell ⟨w.heap.size, 0, none⟩ (.int .i64 0)).setCell ⟨w.heap.size, 1, none⟩ (.int .i64 0)).cell? ⟨w.heap.size, 1, none⟩ = some (.int .i64 0) := ((hbx.set_ 0 _).set_ 1 _).cell 1
      have q2 : (((wr.setCell ⟨w.heap.size, 0, none⟩ (.int .i64 0)).setCell ⟨w.heap.size, 1, none⟩ (.int .i64 0)).setCell ⟨w.heap.size, 2, none⟩ (.int .i64 0)).cell? ⟨w.heap.size, 2, none⟩ = some (.int .i64 0) := (((hbx.set_ 0 _).set_ 1 _).set_ 2 _).cell 2
      have q3 : ((((wr.setCell ⟨w.heap.size, 0, none⟩ (.int .i64 0)).setCell ⟨w.heap.size, 1, none⟩ (.int .i64 0)).setCell ⟨w.heap.size, 2, none⟩ (.int .i64 0)).setCell ⟨w.heap.size, 3, none⟩ (.slice none 0 0)).cell? ⟨w.heap.size, 3, none⟩ = some (.slice none 0 0) := ((((hbx.set_ 0 _).set_ 1 _).set_ 2 _).set_ 3 _).cell 3
      go_wp2
      exact bodyPost_ret (v := .tuple #[.agg #[.int .i64 0, .int .i64 0, .int .i64 0, .slice none 0 0], .int .i64 3]) (by simp [results, Try.results10, go_sem, q0, q1, q2, q3]) rfl ⟨⟨[], .inr ⟨HF.out, rfl⟩⟩, (by repeat (first | exact Below.refl _ _ | assumption | refine Below.drew ?_ | refine below_drewN ?_ _ | refine Below.alloc ?_ (by first | omega | (simp; omega) | simp) _ | refine Below.setCell ?_ (by first | omega | (simp; omega) | simp) _))⟩
end Go.Proofs.Ytndhbdbfjkmloaa
