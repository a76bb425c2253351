/- (*Parser).node whole; what a parser does, by induction on the fuel. What a parser does, by induction on the fuel. pack.New. pack.At, pack.Run: what they answer. A runner in memory; (*runner).run of what has no kids. (*runner).run of a set, of a text. (*runner).run of a name. -/
import Derived.Test.YtkmcnekjimobhaaJTopRoads21
import Derived.Test.YtkmcnekjimobhaaJTopRoads7
import Derived.Test.YtkmcnekjimobhaaJTopRoads1
namespace Go.Proofs.Ytkmcnekjimobhaa
set_option maxHeartbeats 8000000
set_option maxRecDepth 100000
open Go.RowKit Go.Maps
theorem node_alt {c : PC} (hok : c.Ok) {g : List Rl} {m : Nat} (hT : DoesTry c g m) (a b d1 d2 : Int) (t : ByteArray) (ks : List Ex) (num p : Nat) (σ : PS) (r : Option Nat × PS) (cs : List Value) (w : World)
    (hpk : pk g c.s.data.toList c.hk m (.alt ks (num + 1)) p σ = some r) (hE : ExIs w c.B (.mk 6 a b d1 d2 t ks) cs) (hR : ∀ e ∈ ks, RtW g e) (hnum : num + 1 + nodesAll ks <= c.lim) (hp : p <= c.s.data.toList.length) (hB : Bound c.s.data.toList.length σ) (h : Par c w σ) :
    Calls Try.prog 111 #[.pointer (some ⟨c.P, 0, none⟩), .agg cs.toArray, .int .i64 num, .int .i64 p] w (Went c w r) := by
  have hsz := h.size
  have hb1 := hok.Bb
  have hb2 := hok.BP
  have hb3 := hok.BM
  obtain ⟨ht, KA, kcp, rfl, hkc, hkm, _⟩ := hE.shape
  unfold exCells
  have hal : Below w.heap.size w (w.alloc (.cells #[.int .i64 6, .int .u64 a, .int .u64 b, .int .u64 d1, .int .u64 d2, .string t, .slice KA ks.length kcp] 37)) := (Below.refl _ _).alloc (Nat.le_refl _) _
  have hpar := h.below hok hal
  have hkp : Keeps c w (w.alloc (.cells #[.int .i64 6, .int .u64 a, .int .u64 b, .int .u64 d1, .int .u64 d2, .string t, .slice KA ks.length kcp] 37)) := Keeps.of_below hal
  have hm8 : ks.length <= 9223372036854775807 := by unfold maxLen at hkm; omega
  have hnum' : num + 1 + nodesAll ks <= c.lim := hnum
  have hlim := hok.lim
  have HE := Lib.hid hE
  have HT := Lib.hid hT
  have HPK := Lib.hid hpk
  have HRR := Lib.hid hR
  have HB := Lib.hid hB
  have HPP := Lib.hid hp
  clear hE hT hpk hR hB hnum hp
  go_enter Try.func111, Try.ntmps111
  go_wp2
  go_loopw [12, 141] (fun n i wr => ∃ j n' : Nat, ∃ σ' : PS, j <= ks.length /\ i = .int .i64 j /\ n = .int .i64 n' /\ n' + nodesAll (ks.drop j) <= c.lim /\ Hid (pk g c.s.data.toList c.hk m (.alt (ks.drop j) n') p σ' = some r) /\ Hid (Bound c.s.data.toList.length σ') /\ Par c wr σ' /\ Keeps c w wr) (fun _ i _ => ks.length - (intOf i).toNat)
  case atStart => exact ⟨0, num + 1, σ, by omega, rfl, by go_num, hnum', HPK, HB, hpar, hkp⟩
  case round =>
    clear hpar hkp h
    obtain ⟨j, n, σ', hj, rfl, rfl, hn, HP, HB', hpar', hk'⟩ := hrel
    have hzr := hk'.size
    by_cases hjk : j < ks.length
    · have hbw : Below c.B w wr := hk'.below (by omega) hb2 hb3 hb1
      obtain ⟨ad, k', a', b', c', d', t', ks', A', cp', rfl, hab, hej, hE', ⟨e0, e1, e2, e3, e4, e5, e6⟩⟩ := (HE.out.on hbw).kid hjk
      have hpk' := HP.out
      rw [drop_of hej] at hpk' hn
      rw [nodesAll] at hn
      cases m with
      | zero => cases hpk'
      | succ m' =>
      simp only [pk] at hpk'
      cases he : pk g c.s.data.toList c.hk m' (.try_ (.mk k' a' b' c' d' t' ks') n) p σ' with
      | none => rw [he] at hpk'; cases hpk'
      | some r1 =>
      obtain ⟨o, σ1⟩ := r1
      rw [he] at hpk'
      have hbd := pk_bound _ _ _ _ _ _ _ _ _ he HPP.out HB'.out
      have hcall := fun W (hW : Below wr.heap.size wr W) => HT.out.le (Nat.le_succ m') _ n p σ' (o, σ1) _ W he (hE'.on (hW.mono (by omega))) (HRR.out _ (List.mem_of_getElem? hej)) (by omega) HPP.out HB'.out (hpar'.below hok hW)
      have hcn := fun W (hW : Below c.B wr W) => count_any _ _ W ((hE'.on hW).keep (by have := hW.size; omega) fun _ _ => rfl) (by omega)
      have HCN := Lib.hid hcn
      have HC := Lib.hid hcall
      have HPQ := Lib.hid hpk'
      have HBD := Lib.hid hbd
      clear hcn hcall hpk' hbd he hej hE' hpar'
      go_wp2_with fail
      refine (HC.out _ bl).mono ?_
      rintro e' w2 ⟨⟨z, rfl, hz⟩, h1, h2⟩
      have hbx : Blk w2 wr.heap.size 37 #[.int .i64 k', .int .u64 a', .int .u64 b', .int .u64 c', .int .u64 d', .string t', .slice A' ks'.length cp'] := h2.box (blk_at rfl) (by decide) (by have := hok.P; omega) (by have := hok.M; omega)
      have hk2 : Keeps c w w2 := (hk'.alloc _).trans h2
      cases o with
      | some q =>
        have hr : r = (some q, σ1) := by have := HPQ.out; simp only [Option.some.injEq] at this; exact this.symm
        obtain rfl := hz q rfl
        subst hr
        go_wp2
        go_ret2
        exact ⟨⟨q, rfl, fun y ht => by injection ht with ht; rw [ht]⟩, h1, hk2⟩
      | none =>
        have x0 : w2.cell? ⟨wr.heap.size, 0, none⟩ = some (.int .i64 k') := hbx.cell 0; have x1 : w2.cell? ⟨wr.heap.size, 1, none⟩ = some (.int .u64 a') := hbx.cell 1; have x2 : w2.cell? ⟨wr.heap.size, 2, none⟩ = some (.int .u64 b') := hbx.cell 2; have x3 : w2.cell? ⟨wr.heap.size, 3, none⟩ = some (.int .u64 c') := hbx.cell 3; have x4 : w2.cell? ⟨wr.heap.size, 4, none⟩ = some (.int .u64 d') := hbx.cell 4; have x5 : w2.cell? ⟨wr.heap.size, 5, none⟩ = some (.string t') := hbx.cell 5; have x6 : w2.cell? ⟨wr.heap.size, 6, none⟩ = some (.slice A' ks'.length cp') := hbx.cell 6
        have hbw2 : Below c.B wr w2 := ((Below.refl _ _).alloc (by omega) _).trans (h2.below (by simp; omega) hb2 hb3 hb1)
        go_wp2_with fail
        refine (HCN.out w2 hbw2).mono ?_
        rintro e' w3 ⟨rfl, hb3'⟩
        go_wp2
        go_roundw
        case rel => exact ⟨j + 1, n + nodes (.mk k' a' b' c' d' t' ks'), σ1, by omega, by go_num, by go_num, by omega, Lib.hid (pk_le HPQ.out (Nat.le_succ _)), Lib.hid HBD.out.2, h1.below hok hb3', hk2.trans (Keeps.of_below hb3')⟩
        case measure => simp [intOf]; omega
    · obtain rfl : j = ks.length := by omega
      have hpk' := HP.out
      rw [List.drop_length] at hpk'
      have hr : r = (none, σ') := by
        cases m with
        | zero => cases hpk'
        | succ m' => simp only [pk, Option.some.injEq] at hpk'; exact hpk'.symm
      subst hr
      go_wp2
      go_ret2
      exact ⟨⟨0, rfl, fun y ht => by cases ht⟩, hpar', hk'⟩
theorem node_seq {c : PC} (hok : c.Ok) {g : List Rl} {m : Nat} (hT : DoesTry c g m) (a b d1 d2 : Int) (t : ByteArray) (ks : List Ex) (num p : Nat) (σ : PS) (r : Option Nat × PS) (cs : List Value) (w : World)
    (hpk : pk g c.s.data.toList c.hk m (.seq ks (num + 1)) p σ = some r) (hE : ExIs w c.B (.mk 5 a b d1 d2 t ks) cs) (hR : ∀ e ∈ ks, RtW g e) (hnum : num + 1 + nodesAll ks <= c.lim) (hp : p <= c.s.data.toList.length) (hB : Bound c.s.data.toList.length σ) (h : Par c w σ) :
    Calls Try.prog 111 #[.pointer (some ⟨c.P, 0, none⟩), .agg cs.toArray, .int .i64 num, .int .i64 p] w (Went c w r) := by
  have hsz := h.size
  have hb1 := hok.Bb
  obtain ⟨ht, KA, kcp, rfl, hkc, hkm, _⟩ := hE.shape
  have hal : Below w.heap.size w (w.alloc (.cells #[.int .i64 5, .int .u64 a, .int .u64 b, .int .u64 d1, .int .u64 d2, .string t, .slice KA ks.length kcp] 37)) := (Below.refl _ _).alloc (Nat.le_refl _) _
  have hc := seq_any hok hT 5 a b d1 d2 t ks num p σ r _ _ hpk (hE.on (hal.mono (by omega))) hR hnum hp hB (h.below hok hal)
  have hk := Keeps.of_below (c := c) hal
  unfold exCells at hc ⊢
  have HC := Lib.hid hc
  have HK := Lib.hid hk
  clear hc hE hpk hR hnum hB hT hk
  go_enter Try.func111, Try.ntmps111
  go_wp2_with fail
  refine HC.out.mono ?_
  rintro e' w2 ⟨⟨z, rfl, hz⟩, h1, h2⟩
  go_wp2
  go_ret2
  exact ⟨⟨z, rfl, hz⟩, h1, HK.out.trans h2⟩
theorem node_one {c : PC} (hok : c.Ok) {g : List Rl} {m : Nat} (hT : DoesTry c g m) (k a b d1 d2 : Int) (t : ByteArray) (e : Ex) (num p : Nat) (σ : PS) (r : Option Nat × PS) (cs : List Value) (w : World) (h7 : 7 <= k) (h11 : k <= 11)
    (hpk : pk g c.s.data.toList c.hk m (.one k e num) p σ = some r) (hE : ExIs w c.B (.mk k a b d1 d2 t [e]) cs) (hR : RtW g e) (hnum : num + 1 + nodes e <= c.lim) (hp : p <= c.s.data.toList.length) (hB : Bound c.s.data.toList.length σ) (h : Par c w σ) :
    Calls Try.prog 111 #[.pointer (some ⟨c.P, 0, none⟩), .agg cs.toArray, .int .i64 num, .int .i64 p] w (Went c w r) := by
  have hsz := h.size
  have hb1 := hok.Bb
  obtain ⟨ht, KA, kcp, rfl, hkc, hkm, _⟩ := hE.shape
  have hal : Below w.heap.size w (w.alloc (.cells #[.int .i64 k, .int .u64 a, .int .u64 b, .int .u64 d1, .int .u64 d2, .string t, .slice KA 1 kcp] 37)) := (Below.refl _ _).alloc (Nat.le_refl _) _
  have hc := single_any hok hT k a b d1 d2 t e num p σ r _ _ h7 h11 hpk (hE.on (hal.mono (by omega))) hR hnum hp hB (h.below hok hal)
  have hk := Keeps.of_below (c := c) hal
  unfold exCells at hc ⊢
  have hkl : ([e] : List Ex).length = 1 := rfl
  rw [hkl] at hc ⊢
  have HC := Lib.hid hc
  have HK := Lib.hid hk
  have z1 : (k == 1) = false := by rw [beq_eq_false_iff_ne]; omega
  have z2 : (k == 2) = false := by rw [beq_eq_false_iff_ne]; omega
  have z3 : (k == 3) = false := by rw [beq_eq_false_iff_ne]; omega
  have z4 : (k == 4) = false := by rw [beq_eq_false_iff_ne]; omega
  have z5 : (k == 5) = false := by rw [beq_eq_false_iff_ne]; omega
  have z6 : (k == 6) = false := by rw [beq_eq_false_iff_ne]; omega
  clear hc hE hpk hR hnum hB hT hk h7 h11
  go_enter Try.func111, Try.ntmps111
  go_wp2_with fail
  refine HC.out.mono ?_
  rintro e' w2 ⟨⟨z, rfl, hz⟩, h1, h2⟩
  go_wp2
  go_ret2
  exact ⟨⟨z, rfl, hz⟩, h1, HK.out.trans h2⟩
structure PC.Fit (c : PC) : Prop where
  ok : c.Ok
  hook : HookOk c
  rules : c.g.length <= 1000
  len : c.s.data.toList.length <= 1000
  rt : ∀ r ∈ c.g, RtW c.g r.2
  nodes : ∀ i r, c.g[i]? = some r -> firstN c.g i + Go.Proofs.Ytkmcnekjimobhaa.nodes r.2 <= c.lim
theorem rule_any {c : PC} (F : c.Fit) {m : Nat} (hT : DoesTry c c.g m) : DoesRule c (m + 1) := by
  intro i p σ r w hpk hi hp hB h
  have hl := F.len
  have hg := F.rules
  simp only [pk] at hpk
  cases hs : recall σ.seen (i, p) with
  | some o =>
    rw [hs] at hpk
    simp only [Option.some.injEq] at hpk
    subst hpk
    exact (rule_hit F.ok i p (by unfold big; omega) (by unfold big; omega) o hs w h).mono fun e w' hh => ⟨⟨o, hh.1, rfl⟩, hh.2⟩
  | none =>
    rw [hs] at hpk
    obtain ⟨rr, hr⟩ : ∃ rr, c.g[i]? = some rr := ⟨_, List.getElem?_eq_getElem hi⟩
    simp only [hr] at hpk
    cases he : pk c.g c.s.data.toList c.hk m (.try_ rr.2 (firstN c.g i)) p σ with
    | none => rw [he] at hpk; cases hpk
    | some x =>
      obtain ⟨o, σ1⟩ := x
      rw [he] at hpk
      simp only at hpk
      split at hpk
      · cases hpk
      rename_i hn
      simp only [Option.some.injEq] at hpk
      subst hpk
      have hbd := pk_bound _ _ _ _ _ _ _ _ _ he hp hB
      have hge := pk_ge _ _ _ _ _ _ _ _ _ he
      have hn' : recall σ1.seen (i, p) = none := by simpa using hn
      refine (rule_new F.ok i p (o.getD 0) hi hg hp hl o hs hn' (fun q hq => ⟨by rw [hq]; rfl, hge q hq⟩) (by
        cases o with
        | none => simp
        | some q => have := hbd.1 q rfl; simp; omega) (fun r cs W hr' hE hP => by
          rw [hr] at hr'
          injection hr' with hr'
          subst hr'
          exact hT _ _ p σ (o, σ1) _ W he hE (F.rt _ (List.mem_of_getElem? hr)) (F.nodes i _ hr) hp hB hP) w h).mono fun e w' hh => ⟨⟨_, hh.1, ?_⟩, hh.2⟩
      cases o with
      | none => rfl
      | some q =>
        have := hge q rfl
        simp only [Option.map_some, Option.some.injEq]
        omega
theorem u64_nat {a : Int} (h : U64 a) : ∃ n : Nat, a = n /\ n < 18446744073709551616 := by
  obtain ⟨h1, h2⟩ := h
  exact ⟨a.toNat, by omega, by omega⟩
theorem node_any {c : PC} (F : c.Fit) {m : Nat} (hT : DoesTry c c.g m) (hU : DoesRule c m) : DoesNode c c.g (m + 1) := by
  intro e num p σ r cs w hpk hE hR hnum hp hB h
  have hl := F.len
  have hbd := pk_bound _ _ _ _ _ _ _ _ _ hpk hp hB
  obtain ⟨hrt, hwf⟩ := hR
  cases hrt with
  | mk k a b d1 d2 t ks hfit hname hkids =>
  cases hwf with
  | mk _ _ _ _ _ _ _ hk64 wa wb wc wd wks =>
  have hRk : ∀ e ∈ ks, RtW c.g e := fun e he => ⟨hkids e he, wks e he⟩
  rw [nodes] at hnum
  rw [pk_node] at hpk
  have hlb : c.s.data.toList.length <= big := by unfold big; omega
  rcases fit_cases hfit with ⟨rfl, h0⟩ | ⟨rfl, h0⟩ | ⟨rfl, h0, _, h60⟩ | ⟨rfl, h0, _⟩ | ⟨rfl, h2, h8⟩ | ⟨rfl, h2, h8⟩ | ⟨h7, h11, h1⟩
  · rw [if_pos rfl] at hpk
    simp only [Option.some.injEq] at hpk
    subst hpk
    obtain ⟨_, A, cp, rfl, _⟩ := hE.shape
    exact node_empty F.ok a b d1 d2 t A _ cp num p w h
  · rw [if_neg (by decide), if_pos rfl] at hpk
    obtain ⟨_, A, cp, rfl, _⟩ := hE.shape
    obtain ⟨a, rfl, ha⟩ := u64_nat wa
    obtain ⟨b, rfl, hb⟩ := u64_nat wb
    obtain ⟨d1, rfl, hc⟩ := u64_nat wc
    obtain ⟨d2, rfl, hd⟩ := u64_nat wd
    have := node_set F.ok (σ := σ) a b d1 d2 ha hb hc hd t A ks.length cp num p hp hlb w h
    rw [show (if p < c.s.data.toList.length /\ hasE a b d1 d2 (bt c.s.data.toList p) = true then (some (p + 1), σ) else (none, missS σ p ⟨a, b, d1, d2⟩)) = r from by
      split at hpk
      · rename_i hc; rw [if_pos hc]; injection hpk
      · rename_i hc; rw [if_neg hc]; injection hpk] at this
    exact this
  · rw [if_neg (by decide), if_neg (by decide), if_pos rfl] at hpk
    obtain ⟨hts, A, cp, rfl, _⟩ := hE.shape
    have := node_lit F.ok (σ := σ) a b d1 d2 t A ks.length cp num p hp hlb (by have : t.data.toList.length = t.size := size_list t; unfold big; omega) w h
    rw [show (if litAt c.s.data.toList p t.data.toList = true then (some (p + t.size), σ) else (none, missS σ (p + matchN c.s.data.toList p t.data.toList) (oneS (bt t.data.toList (matchN c.s.data.toList p t.data.toList))))) = r from by
      split at hpk
      · rename_i hc; rw [if_pos hc]; injection hpk
      · rename_i hc; rw [if_neg hc]; injection hpk] at this
    exact this
  · rw [if_neg (by decide), if_neg (by decide), if_neg (by decide), if_pos rfl] at hpk
    obtain ⟨_, A, cp, rfl, _⟩ := hE.shape
    have hi := hname rfl
    have hlt := (fndFrom_le c.g t.data.toList 0).2
    have hin : ((fnd c.g t.data.toList).toNat : Int) = fnd c.g t.data.toList := Int.toNat_of_nonneg hi
    exact node_ref F.ok a b d1 d2 t A ks.length cp num p (by omega) r (fun q hq => by have := hbd.1 q hq; omega) w h fun W hW => by
      have := hU (fnd c.g t.data.toList).toNat p σ r W hpk (by unfold fnd; unfold fnd at hi; omega) hp hB hW
      rw [hin] at this
      exact this
  · rw [if_neg (by decide), if_neg (by decide), if_neg (by decide), if_neg (by decide), if_pos rfl] at hpk
    exact node_seq F.ok hT a b d1 d2 t ks num p σ r cs w hpk hE hRk (by omega) hp hB h
  · rw [if_neg (by decide), if_neg (by decide), if_neg (by decide), if_neg (by decide), if_neg (by decide), if_pos rfl] at hpk
    exact node_alt F.ok hT a b d1 d2 t ks num p σ r cs w hpk hE hRk (by omega) hp hB h
  · rw [if_neg (by omega), if_neg (by omega), if_neg (by omega), if_neg (by omega), if_neg (by omega), if_neg (by omega)] at hpk
    match ks, h1 with
    | [e], _ =>
      rw [nodesAll, nodesAll] at hnum
      exact node_one F.ok hT k a b d1 d2 t e num p σ r cs w h7 h11 hpk hE (hRk e (by simp)) (by omega) hp hB h
theorem does {c : PC} (F : c.Fit) : ∀ m, DoesNode c c.g m /\ DoesTry c c.g m /\ DoesRule c m := by
  intro m
  induction m with
  | zero => exact ⟨fun e num p σ r cs w hpk => (by cases hpk), fun e num p σ r cs w hpk => (by cases hpk), fun i p σ r w hpk => (by cases hpk)⟩
  | succ m ih => exact ⟨node_any F ih.2.1 ih.2.2, try_any F.ok F.hook ih.1, rule_any F ih.2.1⟩
theorem int_info_ : (Try.prog.info? 3).map (fun i => (i.zero, i.size, i.bytes)) = some (some (.int .i64 0), 1, 8) := by kernel_rfl
def ps0 : PS := ⟨[], [], -1, noS, []⟩
def firstsN (g : List Rl) (j : Nat) : List Nat := (List.range j).map (firstN g)
theorem firstsN_succ (g : List Rl) (j : Nat) : firstsN g (j + 1) = firstsN g j ++ [firstN g j] := by
  unfold firstsN
  rw [List.range_succ, List.map_append]
  rfl
theorem firstN_succ {g : List Rl} {j : Nat} {r : Rl} (h : g[j]? = some r) : firstN g (j + 1) = firstN g j + nodes r.2 := by
  unfold firstN
  rw [take_succ_of h, List.map_append, List.sum_append]
  simp
theorem firstN_le {g : List Rl} (h : ∀ r ∈ g, nodes r.2 <= 60) : ∀ j, firstN g j <= j * 60 := by
  intro j
  induction j with
  | zero => simp [firstN]
  | succ j ih =>
    cases hr : g[j]? with
    | some r =>
      rw [firstN_succ hr]
      have := h r (List.mem_of_getElem? hr)
      omega
    | none =>
      have hl : g.length <= j := List.getElem?_eq_none_iff.1 hr
      unfold firstN at ih ⊢
      rw [List.take_of_length_le (by omega)]
      rw [List.take_of_length_le (by omega)] at ih
      omega
theorem own_ne_t {w : World} {base n size k : Nat} {e T : TypeId} {v : Value} {xs : List Value} {cs : Array Value} (hb : Blk w k T cs) (ho : w.ownsRow base e size v n xs) (hT : T ≠ e) : some k ≠ v.ownBlock := fun h => by
  rcases ho.2 with ⟨rfl, _⟩ | ⟨g, cap, cur, rfl, hb', hgg, _⟩
  · cases h
  · simp only [Value.ownBlock, Option.some.injEq] at h
    subst h
    have hb2 : w.heap[k]? = some (.cells cs T (0, 0)) := hb
    rw [hgg] at hb2
    injection hb2 with hb2
    injection hb2 with e1 e2 e3
    exact hT e2.symm
theorem own_cell {w : World} {base n i F cap : Nat} {e : TypeId} {xs : List Value} {u : Value} (ho : w.ownsRow base e 1 (.slice (some ⟨F, 0, none⟩) n cap) n xs) (h : xs[i]? = some u) : w.cell? ⟨F, i, none⟩ = some u := by
  rcases ho.2 with ⟨h1, _⟩ | ⟨g, cap', cur, h1, hb', hgg, _, _, _, hx⟩
  · cases h1
  · injection h1 with h1 h2 h3
    injection h1 with h1
    injection h1 with h1
    subst h1
    rw [cell_of_row w F i cur e (0, 0) hgg, <- Array.getElem?_toList]
    have hi := getElem?_lt h
    rw [<- hx, List.getElem?_take] at h
    split at h
    · exact h
    · cases h
def natV (l : List Nat) : List Value := l.map fun x : Nat => Value.int .i64 x
def NewQ (g : List Rl) (s : ByteArray) (A : Option Addr) (cp : Nat) (row : Nat -> List Value) (w : World) (e : Ending) (w' : World) : Prop := ∃ c : PC, c.g = g /\ c.s = s /\ c.hook = .nilFunc /\ (c.hk = false /\ c.lim = 1000000000000 /\ c.B <= c.F /\ c.A = A /\ c.cp = cp /\ c.row = row) /\ e = .returned (.pointer (some ⟨c.P, 0, none⟩)) /\ c.Ok /\ Par c w' ps0 /\ Below w.heap.size w w' /\ c.B = w.heap.size
def newC (A : Option Addr) (n cp : Nat) (s : ByteArray) (M : Nat) (fv : Value) : Array Value :=
  #[.slice A n cp, .string s, .map (some M), .slice none 0 0, .int .i64 (-1), .int .u64 0, .int .u64 0, .int .u64 0, .int .u64 0, .nilFunc, fv]
theorem new_any {g : List Rl} {A : Option Addr} {cp : Nat} {row : Nat -> List Value} {w : World} (h : GrIs w w.heap.size g A cp row) (h0 : 0 < g.length) (h10 : g.length <= 10) (h60 : ∀ r ∈ g, nodes r.2 <= 60) (s : ByteArray) :
    Calls Try.prog 44 #[.agg #[.slice A g.length cp], .string s] w (NewQ g s A cp row w) := by
  have hmm := @run_makeMap Try.prog
  obtain ⟨i0, hi, hz0, hz1, hz2⟩ := info_parts int_info_
  have H := Lib.hid h
  have H60 := Lib.hid h60
  have hfl := firstN_le h60
  have HFL := Lib.hid hfl
  clear h h60 hfl
  go_enter Try.func44, Try.ntmps44
  go_wp2
  go_loopw [6, 17] (fun n i wr => ∃ (j : Nat) (fv : Value), j <= g.length /\ i = .int .i64 j /\ n = .int .i64 (firstN g j : Nat) /\ Blk wr (w.heap.size + 1 + 1) 102 (newC A g.length cp s (w.heap.size + 1) fv) /\ Hid (wr.ownsRow (w.heap.size + 3) 3 1 fv j (natV (firstsN g j))) /\ Hid (Memo wr (w.heap.size + 1) []) /\ Below w.heap.size w wr /\ w.heap.size + 3 <= wr.heap.size) (fun _ i _ => g.length - (intOf i).toNat)
  case atStart =>
    refine ⟨0, .slice none 0 0, by omega, rfl, rfl, blk_at (by simp), World.ownsRow_nil _ _ _ _, ?_, bl, by simp⟩
    have h1 := memo_made (w.alloc (.cells #[.slice A g.length cp] 24))
    rw [show (w.alloc (.cells #[.slice A g.length cp] 24)).heap.size = w.heap.size + 1 by simp] at h1
    exact h1.kept (grown_of_below ((Below.refl _ _).alloc (Nat.le_refl _) _) none) (by simp)
  case round =>
    obtain ⟨j, fv, hj, rfl, rfl, hbx, HO, HMe, hwr, hz3⟩ := hrel
    obtain ⟨V, c', rfl⟩ := own_form HO.out
    have hfj := HFL.out j
    have hpl := hbx.lt
    have p10 : wr.cell? ⟨w.heap.size + 1 + 1, 10, none⟩ = some (.slice V j c') := hbx.cell 10
    have hwz := hwr.size
    by_cases hjk : j < g.length
    · obtain ⟨ad, nm, k', a', b', c1, d', t', ks', A', cp', rfl, hab, hej, hnm, hE, ⟨e0, e1, e2, e3, e4, e5, e6, e7⟩⟩ := (H.out.on hwr).rule hjk
      have hfs := firstN_succ hej
      have hn60 := H60.out _ (List.mem_of_getElem? hej)
      have hcn := fun W (hW : Below w.heap.size w W) => count_any _ _ W (hE.keep hW.size fun _ hp => (hW.cell hp).trans (hwr.cell hp).symm) (by simp only at hn60; omega)
      have hnewc : ∀ (u : Nat) (v : Value), [Value.int .i64 (firstN g j : Nat)][u]? = some v -> ((wr.alloc (.cells #[.string nm, .int .i64 k', .int .u64 a', .int .u64 b', .int .u64 c1, .int .u64 d', .string t', .slice A' ks'.length cp'] 96)).alloc (.cells #[.int .i64 (firstN g j : Nat)] 3)).cell? ((⟨wr.heap.size + 1, 0, none⟩ : Addr).add u) = some v := by
        have h1 := new_cells (wr.alloc (.cells #[.string nm, .int .i64 k', .int .u64 a', .int .u64 b', .int .u64 c1, .int .u64 d', .string t', .slice A' ks'.length cp'] 96)) 3 [.int .i64 (firstN g j : Nat)]
        rw [show (wr.alloc (.cells #[.string nm, .int .i64 k', .int .u64 a', .int .u64 b', .int .u64 c1, .int .u64 d', .string t', .slice A' ks'.length cp'] 96)).heap.size = wr.heap.size + 1 by simp] at h1
        exact h1
      have hbr : Blk ((wr.alloc (.cells #[.string nm, .int .i64 k', .int .u64 a', .int .u64 b', .int .u64 c1, .int .u64 d', .string t', .slice A' ks'.length cp'] 96)).alloc (.cells #[.int .i64 (firstN g j : Nat)] 3)) wr.heap.size 96 #[.string nm, .int .i64 k', .int .u64 a', .int .u64 b', .int .u64 c1, .int .u64 d', .string t', .slice A' ks'.length cp'] := (blk_at rfl).alloc _
      unfold exCells at hcn
      have HNC := Lib.hid hnewc
      have HCN := Lib.hid hcn
      have HFS := Lib.hid hfs
      have HBR := Lib.hid hbr
      have HBX := Lib.hid hbx
      simp only at hn60
      generalize nodes (.mk k' a' b' c1 d' t' ks') = nn at HFS HCN hn60
      generalize hq : firstN g j = q at hfj HNC HFS HBR
      have HQ := Lib.hid hq
      clear hnewc hcn hfs hE hej hbr hq
      have hq600 : q <= 600 := by omega
      go_wp2_with (at_builtin; refine wpList_append_own _ rfl _ _ _ rfl (w.heap.size + 3) 3 i0 _ 1 8 Try.underlying100 hi hz0 hz1 hz2 rfl (by decide) _ _ _ rfl ((HO.out.alloc _).alloc _) ⟨wr.heap.size + 1, 0, none⟩ 1 1 [.int .i64 q] rfl rfl HNC.out (by simp [Value.oneCell']) (by unfold maxLen; omega) (by omega) (by simp; omega) ?_; intro v' w2 hown2 hgr2 _; obtain ⟨V2, c2, rfl⟩ := own_form hown2; have hP2 := ((HBX.out.alloc _).alloc _).grown hgr2 (own_ne HO.out (by omega)); have s10 : w2.cell? ⟨w.heap.size + 1 + 1, 10, none⟩ = some (.slice V j c') := hP2.cell 10; have f10 := hP2.frozen 10; have hB2 := HBR.out.grown hgr2 (own_ne_t HBR.out ((HO.out.alloc _).alloc _) (by decide)); have hgs := hgr2.size; have y0 : w2.cell? ⟨wr.heap.size, 0, none⟩ = some (.string nm) := hB2.cell 0; have y1 : w2.cell? ⟨wr.heap.size, 1, none⟩ = some (.int .i64 k') := hB2.cell 1; have y2 : w2.cell? ⟨wr.heap.size, 2, none⟩ = some (.int .u64 a') := hB2.cell 2; have y3 : w2.cell? ⟨wr.heap.size, 3, none⟩ = some (.int .u64 b') := hB2.cell 3; have y4 : w2.cell? ⟨wr.heap.size, 4, none⟩ = some (.int .u64 c1) := hB2.cell 4; have y5 : w2.cell? ⟨wr.heap.size, 5, none⟩ = some (.int .u64 d') := hB2.cell 5; have y6 : w2.cell? ⟨wr.heap.size, 6, none⟩ = some (.string t') := hB2.cell 6; have y7 : w2.cell? ⟨wr.heap.size, 7, none⟩ = some (.slice A' ks'.length cp') := hB2.cell 7)
      have hw2 : Below w.heap.size w w2 := below_app ((hwr.alloc hwz _).alloc (by simp; omega) _) ((HO.out.alloc _).alloc _) hgr2 (by simp; omega) (by omega)
      have hw2z := hw2.size
      refine (HCN.out _ (hw2.setCell (by simp; omega) _)).mono ?_
      rintro e w3 ⟨rfl, hb3⟩
      have hP3 : Blk w3 (w.heap.size + 1 + 1) 102 (newC (some ad) g.length cp s (w.heap.size + 1) (.slice V2 (j + 1) c2)) := (hP2.set_ 10 (.slice V2 (j + 1) c2)).below hb3 (by have := hP2.lt; simpa [World.setCell] using this)
      have hgp : w2.grownBy (w2.setCell ⟨w.heap.size + 1 + 1, 10, none⟩ (.slice V2 (j + 1) c2)) (some (w.heap.size + 1 + 1)) := ⟨rfl, rfl, rfl, by simp [World.setCell], fun k hk hne => Below.heap_setCell w2 ⟨w.heap.size + 1 + 1, 10, none⟩ _ k (by rintro rfl; exact hne rfl)⟩
      have hO3 := own_below (own_far hown2 hgp (by omega)) hb3
      have hM2 := (((HMe.out.kept (grown_of_below (((Below.refl _ wr).alloc (Nat.le_refl _) _).alloc (by simp) _) none) (by simp)).kept hgr2 (own_ne HO.out (by omega))).kept hgp (by simp)).kept (grown_of_below hb3 none) (by simp)
      have hw3 : Below w.heap.size w w3 := (hw2.setCell (by simp; omega) _).trans (hb3.mono (by simpa [World.setCell] using hw2z))
      have hz4 : w.heap.size + 3 <= w3.heap.size := by have := hP3.lt; omega
      have hq1 : q + nn <= 700 := by omega
      clear y0 y1 y2 y3 y4 y5 y6 y7 s10 f10 hb3 hgp hown2 hP2 hB2
      go_wp2
      go_roundw
      case rel => exact ⟨j + 1, .slice V2 (j + 1) c2, by omega, by go_num, by rw [HFS.out]; go_num, hP3, (by show World.ownsRow _ _ _ _ _ _ _; rw [firstsN_succ, HQ.out, natV, List.map_append]; exact hO3), hM2, hw3, hz4⟩
      case measure => simp [intOf]; omega
    · obtain rfl : j = g.length := by omega
      obtain ⟨F, c3, hF⟩ := Joins.ownsRow_form HO.out h0
      simp only [Value.slice.injEq, true_and] at hF
      obtain ⟨rfl, rfl⟩ := hF
      have hFl := HO.out.lt F rfl
      go_wp2
      go_ret
      refine ⟨{ B := w.heap.size, P := w.heap.size + 1 + 1, M := w.heap.size + 1, F := F, base := wr.heap.size, A := A, n := g.length, cp := cp, fcp := c', s := s, hook := .nilFunc, firsts := firstsN g g.length, g := g, row := row, ob := w.heap.size + 1, bo := 0, hk := false, lim := 1000000000000 }, rfl, rfl, rfl, ⟨rfl, rfl, by simp; omega, rfl, rfl, rfl⟩, rfl, ⟨by simp; omega, by simp, by simp; omega, by simp; omega, by simp; omega, by simp; omega, by simp; omega, by simp; omega, by simp, rfl, fun i hi => ?_, Nat.le_refl _, fun h => (by cases h)⟩, ⟨⟨.slice none 0 0, hbx, World.ownsRow_nil _ _ _ _⟩, HMe.out, fun i x hi => ?_, by simp, H.out.on hwr, ⟨by simp [ps0], by simp [ps0], rfl⟩, fun h => (by cases h)⟩, hwr, rfl⟩
      · have hi' : i < g.length := hi
        simp [firstsN, hi']
      · have hi' : (firstsN g g.length)[i]? = some x := hi
        exact own_cell HO.out (by simp [natV, hi'])
def Sem (g : List Rl) (s : List UInt8) (e : Ex) (p : Nat) (o : Option Nat) : Prop := ∃ n, ev g s n e p = some o
theorem Sem.eq {g : List Rl} {s : List UInt8} {e : Ex} {p : Nat} {o o' : Option Nat} (h : Sem g s e p o) (h' : Sem g s e p o') : o = o' := by
  obtain ⟨n, h⟩ := h
  obtain ⟨m, h'⟩ := h'
  exact ev_eq h h'
theorem agree0 (g : List Rl) (s : List UInt8) : Agree g s ps0 := fun i p o h => by cases h
theorem bound0 (L : Nat) : Bound L ps0 := fun i p n h => by cases h
theorem rule_goes {g : List Rl} (W : WellG g) (s : List UInt8) {i p : Nat} {r : Rl} (hr : g[i]? = some r) (hp : p <= s.length) : ∃ o m σ1, Sem g s r.2 p o /\ pk g s false m (.rule i) p ps0 = some (o, σ1) /\ Agree g s σ1 := by
  obtain ⟨n, o, he⟩ := ends (s := s) W hp (W.good (List.mem_of_getElem? hr))
  obtain ⟨m, σ1, h1, h2, _⟩ := goes_rule (hook := false) (fits_of W.right) hp hr he (fun n0 _ o ho σ num hσ => (goes (fits_of W.right) n0).1 r.2 p o (W.right.rt r (List.mem_of_getElem? hr)) hp ho σ num hσ) (agree0 g s)
  exact ⟨o, m, σ1, ⟨n, he⟩, h1, h2⟩
theorem look_zero {g : List Rl} {s : ByteArray} (h : lookG g s = 0) : WellG g /\ s.size <= 60 := by
  unfold lookG at h
  split at h
  · rename_i hc; exact absurd h hc
  rename_i hc
  split at h
  · simp at h
  · exact ⟨well_of (by simpa using hc), by omega⟩
theorem sixty_of {g : List Rl} (R : RightG g) : ∀ r ∈ g, nodes r.2 <= 60 := fun r hr => nodes_le (R.body r hr)
theorem PC.fit {c : PC} (W : WellG c.g) (h60 : c.s.size <= 60) (hok : c.Ok) (hk : c.hk = false) (hl : c.lim = 1000000000000) (hh : c.hook = .nilFunc) (hwf : ∀ r ∈ c.g, WfE r.2) : c.Fit :=
  ⟨hok, .inl ⟨hk, hh⟩, by have := W.right.ten; omega, by rw [show c.s.data.toList.length = c.s.size from size_list _]; omega, fun r hr => ⟨W.right.rt r hr, hwf r hr⟩, fun i r hr => by
    have h1 := firstN_le (sixty_of W.right) i
    have h2 := (sixty_of W.right) r (List.mem_of_getElem? hr)
    have h3 := getElem?_lt hr
    have h4 := W.right.ten
    omega⟩
structure RC where
  B : Nat
  R : Nat
  A : Option Addr
  cp : Nat
  s : ByteArray
  g : List Rl
  row : Nat -> List Value
  BR : B <= R
structure Rn (c : RC) (w : World) (L : Nat) (ov : Bool) : Prop where
  blk : Blk w c.R 120 #[.slice c.A c.g.length c.cp, .string c.s, .int .i64 L, .bool ov]
  gram : GrIs w c.B c.g c.A c.cp c.row
structure KeepR (c : RC) (w w' : World) : Prop where
  os : w'.os = w.os
  tape : w'.tape = w.tape
  output : w'.output = w.output
  size : w.heap.size <= w'.heap.size
  blk : ∀ k, k < w.heap.size -> k ≠ c.R -> w'.heap[k]? = w.heap[k]?
section
variable {c : RC} {w w' w'' : World} {L : Nat} {ov : Bool}
theorem KeepR.refl (c : RC) (w : World) : KeepR c w w := ⟨rfl, rfl, rfl, Nat.le_refl _, fun _ _ _ => rfl⟩
theorem KeepR.trans (h : KeepR c w w') (h' : KeepR c w' w'') : KeepR c w w'' :=
  ⟨h'.os.trans h.os, h'.tape.trans h.tape, h'.output.trans h.output, Nat.le_trans h.size h'.size, fun k h1 h2 => (h'.blk k (Nat.lt_of_lt_of_le h1 h.size) h2).trans (h.blk k h1 h2)⟩
theorem KeepR.of_below (h : Below w.heap.size w w') : KeepR c w w' := ⟨h.os, h.tape, h.output, h.size, fun k h1 _ => h.block k h1⟩
theorem KeepR.below (h : KeepR c w w') {B : Nat} (hB : B <= w.heap.size) (h1 : B <= c.R) : Below B w w' :=
  ⟨h.os, h.tape, h.output, h.size, fun k hk => h.blk k (by omega) (by omega)⟩
theorem KeepR.box (h : KeepR c w w') {k : Nat} {t : TypeId} {cs : Array Value} (hb : Blk w k t cs) (h1 : k ≠ c.R) : Blk w' k t cs := (h.blk k hb.lt h1).trans hb
theorem KeepR.alloc (h : KeepR c w w') (o : Obj) : KeepR c w (w'.alloc o) := h.trans (KeepR.of_below ((Below.refl _ _).alloc (Nat.le_refl _) o))
theorem KeepR.drew (h : KeepR c w w') : KeepR c w w'.drew := ⟨h.os, h.tape, h.output, h.size, h.blk⟩
theorem KeepR.set (h : KeepR c w w') (i : Nat) (u : Value) : KeepR c w (w'.setCell ⟨c.R, i, none⟩ u) :=
  h.trans ⟨rfl, rfl, rfl, by simp [World.setCell], fun k _ hk => Below.heap_setCell w' ⟨c.R, i, none⟩ u k hk⟩
theorem Rn.below (h : Rn c w L ov) (hb : Below w.heap.size w w') : Rn c w' L ov :=
  ⟨h.blk.below hb h.blk.lt, h.gram.on (hb.mono (by have := c.BR; have := h.blk.lt; omega))⟩
theorem Rn.drew (h : Rn c w L ov) : Rn c w.drew L ov := ⟨h.blk.drew, h.gram.on ((Below.refl _ _).drew)⟩
theorem Rn.alloc (h : Rn c w L ov) (o : Obj) : Rn c (w.alloc o) L ov := h.below ((Below.refl _ _).alloc (Nat.le_refl _) o)
theorem Rn.left (h : Rn c w L ov) (L' : Nat) : Rn c (w.setCell ⟨c.R, 2, none⟩ (.int .i64 L')) L' ov :=
  ⟨h.blk.set_ 2 (.int .i64 L'), h.gram.on ((Below.refl _ _).setCell c.BR _)⟩
theorem Rn.over (h : Rn c w L ov) : Rn c (w.setCell ⟨c.R, 3, none⟩ (.bool true)) L true :=
  ⟨h.blk.set_ 3 (.bool true), h.gram.on ((Below.refl _ _).setCell c.BR _)⟩
theorem Rn.c0 (h : Rn c w L ov) : w.cell? ⟨c.R, 0, none⟩ = some (.slice c.A c.g.length c.cp) := h.blk.cell 0
theorem Rn.c1 (h : Rn c w L ov) : w.cell? ⟨c.R, 1, none⟩ = some (.string c.s) := h.blk.cell 1
theorem Rn.c2 (h : Rn c w L ov) : w.cell? ⟨c.R, 2, none⟩ = some (.int .i64 L) := h.blk.cell 2
theorem Rn.c3 (h : Rn c w L ov) : w.cell? ⟨c.R, 3, none⟩ = some (.bool ov) := h.blk.cell 3
theorem Rn.fr (h : Rn c w L ov) (i : Nat) : w.frozen? ⟨c.R, i, none⟩ = false := h.blk.frozen i
end
def Gone (c : RC) (L C : Nat) (o : Option Nat) (w : World) (e : Ending) (w' : World) : Prop := Ret (if L < C then none else o) e /\ Rn c w' (L - C) (decide (L < C)) /\ KeepR c w w'
theorem Gone.up {c : RC} {L C : Nat} {o : Option Nat} {w w1 w' : World} {e : Ending} (h : Gone c L C o w1 e w') (hk : KeepR c w w1) : Gone c (L + 1) (1 + C) o w e w' := by
  obtain ⟨h1, h2, h3⟩ := h
  refine ⟨?_, ?_, hk.trans h3⟩
  · rw [show (if L + 1 < 1 + C then none else o) = (if L < C then none else o) from by
      by_cases hc : L < C
      · rw [if_pos hc, if_pos (by omega)]
      · rw [if_neg hc, if_neg (by omega)]]
    exact h1
  · rw [show L + 1 - (1 + C) = L - C by omega, show decide (L + 1 < 1 + C) = decide (L < C) from by rw [decide_eq_decide]; omega]
    exact h2
theorem Gone.one {c : RC} {l : Nat} {o : Option Nat} {w : World} {e : Ending} {w' : World} (hr : Ret o e) (hn : Rn c w' l false) (hk : KeepR c w w') : Gone c (l + 1) 1 o w e w' := by
  refine ⟨?_, ?_, hk⟩
  · rw [if_neg (by omega)]; exact hr
  · rw [show l + 1 - 1 = l by omega, decide_eq_false (by omega)]; exact hn
structure RC.Fit (c : RC) : Prop where
  right : RightG c.g
  wf : ∀ r ∈ c.g, WfE r.2
  len : c.s.data.toList.length <= 1000
def lots : Nat := 2000000
def DoesRun (c : RC) (n : Nat) : Prop := ∀ (e : Ex) (p : Nat) (o : Option Nat) (cs : List Value) (w : World) (L : Nat), ev c.g c.s.data.toList n e p = some o -> ExIs w c.B e cs -> RtW c.g e -> p <= c.s.data.toList.length -> Rn c w L false -> L <= lots ->
  Calls Try.prog 55 #[.pointer (some ⟨c.R, 0, none⟩), .agg cs.toArray, .int .i64 p] w (Gone c L (cost c.g c.s.data.toList n (.ex e) p) o w)
structure RunC (c : RC) (w : World) (L : Nat) (ov : Bool) (bc : Array Value) (W : World) : Prop where
  rn : Rn c W L ov
  keeps : KeepR c w W
  box : Blk W w.heap.size 37 bc
section
variable {c : RC} {w W W' : World} {L : Nat} {ov : Bool} {bc : Array Value}
theorem RunC.drew (h : RunC c w L ov bc W) : RunC c w L ov bc W.drew := ⟨h.rn.drew, h.keeps.drew, h.box.drew⟩
theorem RunC.below (h : RunC c w L ov bc W) (hb : Below W.heap.size W W') : RunC c w L ov bc W' := ⟨h.rn.below hb, h.keeps.trans (KeepR.of_below hb), h.box.below hb h.box.lt⟩
theorem RunC.alloc (h : RunC c w L ov bc W) (o : Obj) : RunC c w L ov bc (W.alloc o) := h.below ((Below.refl _ _).alloc (Nat.le_refl _) o)
theorem RunC.start {l : Nat} (h : Rn c w (l + 1) false) (bc : Array Value) : RunC c w l false bc ((w.setCell ⟨c.R, 2, none⟩ (.int .i64 l)).alloc (.cells bc 37)) :=
  ⟨(h.left l).alloc _, ((KeepR.refl c w).set 2 _).alloc _, blk_at (by simp)⟩
theorem RunC.past (h : RunC c w L ov bc W) (hR : c.R < w.heap.size) {L' : Nat} {ov' : Bool} (hp : Rn c W' L' ov') (hk : KeepR c W W') : RunC c w L' ov' bc W' := ⟨hp, h.keeps.trans hk, hk.box h.box (by omega)⟩
end
theorem mr_zero {c : RC} {w : World} (h : Rn c w 0 false) (bc : Array Value) (p : Nat) (C : Nat) (hC : 0 < C) (o : Option Nat) :
    Calls Try.prog 55 #[.pointer (some ⟨c.R, 0, none⟩), .agg bc, .int .i64 p] w (Gone c 0 C o w) := by
  have hlt := h.blk.lt
  have s2 := h.c2
  have s3 := h.c3
  have f3 := h.fr 3
  have HO := Lib.hid (h.over.alloc (.cells bc 37))
  have HK := Lib.hid (((KeepR.refl c w).set 3 (.bool true)).alloc (.cells bc 37))
  have hne : w.heap.size ≠ c.R := by omega
  clear h
  go_enter Try.func55, Try.ntmps55
  go_wp2
  go_ret2
  refine ⟨⟨0, ?_, fun tz ht => ?_⟩, ?_, HK.out⟩
  · rw [if_pos hC]; rfl
  · rw [if_pos hC] at ht; cases ht
  · rw [Nat.zero_sub, decide_eq_true hC]; exact HO.out
theorem mr_empty {c : RC} {w : World} {l : Nat} (h : Rn c w (l + 1) false) (hl : l + 1 <= lots) (a b d1 d2 : Int) (t : ByteArray) (A : Option Addr) (n cp p : Nat) :
    Calls Try.prog 55 #[.pointer (some ⟨c.R, 0, none⟩), .agg #[.int .i64 1, .int .u64 a, .int .u64 b, .int .u64 d1, .int .u64 d2, .string t, .slice A n cp], .int .i64 p] w (Gone c (l + 1) 1 (some p) w) := by
  have hlt := h.blk.lt
  have s2 := h.c2
  have s3 := h.c3
  have f2 := h.fr 2
  have hpl : ((l + 1 : Nat) : Int) = (l : Int) + 1 := by omega
  rw [hpl] at s2
  have hl0 : ((l : Int) + 1 == 0) = false := by rw [beq_eq_false_iff_ne]; omega
  have hne : w.heap.size ≠ c.R := by omega
  have hl' : l + 1 <= 2000000 := hl
  have HN := Lib.hid (RunC.start h #[.int .i64 1, .int .u64 a, .int .u64 b, .int .u64 d1, .int .u64 d2, .string t, .slice A n cp])
  clear h hl
  go_enter Try.func55, Try.ntmps55
  go_wp2
  go_ret2
  exact .one ⟨p, rfl, fun tz ht => by injection ht with ht; rw [ht]⟩ HN.out.rn HN.out.keeps
theorem mr_set {c : RC} {w : World} {l : Nat} (h : Rn c w (l + 1) false) (hl : l + 1 <= lots) (a b d1 d2 : Nat) (ha : a < 18446744073709551616) (hb : b < 18446744073709551616) (hc : d1 < 18446744073709551616) (hd : d2 < 18446744073709551616) (t : ByteArray) (A : Option Addr) (n cp p : Nat) (hp : p <= c.s.data.toList.length) (hlen : c.s.data.toList.length <= 1000) :
    Calls Try.prog 55 #[.pointer (some ⟨c.R, 0, none⟩), .agg #[.int .i64 2, .int .u64 a, .int .u64 b, .int .u64 d1, .int .u64 d2, .string t, .slice A n cp], .int .i64 p] w (Gone c (l + 1) 1 (if p < c.s.data.toList.length /\ hasE a b d1 d2 (bt c.s.data.toList p) = true then some (p + 1) else none) w) := by
  have hsz : c.s.data.toList.length = c.s.size := size_list _
  rw [hsz] at hp hlen ⊢
  have hwd : Words [a, b, d1, d2] := fun i => by
    match i with
    | 0 => exact ha
    | 1 => exact hb
    | 2 => exact hc
    | 3 => exact hd
    | i + 4 => simp
  have hlt := h.blk.lt
  have s2 := h.c2
  have s3 := h.c3
  have f2 := h.fr 2
  have hpl : ((l + 1 : Nat) : Int) = (l : Int) + 1 := by omega
  rw [hpl] at s2
  have hl0 : ((l : Int) + 1 == 0) = false := by rw [beq_eq_false_iff_ne]; omega
  have hne : w.heap.size ≠ c.R := by omega
  have hl' : l + 1 <= 2000000 := hl
  have HN := Lib.hid (RunC.start h #[.int .i64 2, .int .u64 a, .int .u64 b, .int .u64 d1, .int .u64 d2, .string t, .slice A n cp])
  clear h hl
  clear ha hb hc hd hsz
  have hwp : IntKind.i64.wrap ((p : Int) + 1) = (p : Int) + 1 := wrap_i64 _ (by omega) (by omega)
  by_cases hps : p < c.s.size
  · have hbt := bt_of hps
    have hh := has_any [a, b, d1, d2] hwd (bt c.s.data.toList p) (bt_lt _ _)
    unfold vals at hh
    have HX : Hid (hasE a b d1 d2 (bt c.s.data.toList p) = hasN [a, b, d1, d2] (bt c.s.data.toList p)) := by
      show _ = _
      unfold hasE
      simp only [Int.toNat_natCast]
    generalize hasN [a, b, d1, d2] (bt c.s.data.toList p) = x at hh HX
    rw [HX.out]
    generalize hO : (if p < c.s.size /\ x = true then some (p + 1) else none) = o
    have HO := Lib.hid hO
    have hlt' : (p : Int) < (c.s.size : Int) := by omega
    have hlb : decide ((p : Int) < (c.s.size : Int)) = true := decide_eq_true hlt'
    clear HX hwd hO
    generalize bt c.s.data.toList p = y at hbt hh
    have HH := Lib.hid hh
    clear hh
    go_enter Try.func55, Try.ntmps55
    go_wp2_with fail
    refine wp_region_q (RunC c w l false #[.int .i64 2, .int .u64 a, .int .u64 b, .int .u64 d1, .int .u64 d2, .string t, .slice A n cp]) (by kernel_rfl) (by kernel_rfl) HN.out.drew ?_
    repeat
      (first | ((with_reducible apply QW.free rfl); · (intro W hW; have s1 := hW.rn.c1; have t1 := hW.box.cell 1; have t2 := hW.box.cell 2; have t3 := hW.box.cell 3; have t4 := hW.box.cell 4; go_simp; first | rfl | (go_at_call 85; refine (HH.out _).mono ?_; exact fun e w' h => ⟨h.1, hW.below h.2⟩))) | ((with_reducible apply QW.skip rfl); · (first | exact ⟨_, _, rfl, rfl, .inl rfl⟩ | exact ⟨_, _, rfl, rfl, .inr rfl⟩)) | ((with_reducible apply QW.take rfl); (· exact ⟨_, rfl, rfl⟩); (· (intro W hW; have s1 := hW.rn.c1; have t1 := hW.box.cell 1; have t2 := hW.box.cell 2; have t3 := hW.box.cell 3; have t4 := hW.box.cell 4; go_simp; first | rfl | (go_at_call 85; refine (HH.out _).mono ?_; exact fun e w' h => ⟨h.1, hW.below h.2⟩))))); (try simp only [Act.put, List.setIfInBounds_toArray, List.set_cons_zero, List.set_cons_succ])
    refine QW.nil ?_
    intro w1 h1
    go_wp2
    go_ret2
    have ho := HO.out
    cases x with
    | true =>
      rw [if_pos ⟨hps, rfl⟩] at ho
      subst ho
      exact .one ⟨((p + 1 : Nat) : Int), by simp, fun tz ht => by injection ht with ht; rw [ht]⟩ h1.rn h1.keeps
    | false =>
      rw [if_neg (by simp)] at ho
      subst ho
      exact .one ⟨((p + 1 : Nat) : Int), by simp, fun tz ht => by cases ht⟩ h1.rn h1.keeps
  · rw [if_neg (fun h => hps h.1)]
    have hlb : decide ((p : Int) < (c.s.size : Int)) = false := decide_eq_false (by omega)
    have hlt' : ((p : Int) < (c.s.size : Int)) = False := by simp; omega
    clear hwd hps
    go_enter Try.func55, Try.ntmps55
    go_wp2_with fail
    refine wp_region_q (RunC c w l false #[.int .i64 2, .int .u64 a, .int .u64 b, .int .u64 d1, .int .u64 d2, .string t, .slice A n cp]) (by kernel_rfl) (by kernel_rfl) HN.out.drew ?_
    repeat
      (first | ((with_reducible apply QW.free rfl); · (intro W hW; have s1 := hW.rn.c1; have t1 := hW.box.cell 1; have t2 := hW.box.cell 2; have t3 := hW.box.cell 3; have t4 := hW.box.cell 4; go_simp; first | rfl)) | ((with_reducible apply QW.skip rfl); · (first | exact ⟨_, _, rfl, rfl, .inl rfl⟩ | exact ⟨_, _, rfl, rfl, .inr rfl⟩)) | ((with_reducible apply QW.take rfl); (· exact ⟨_, rfl, rfl⟩); (· (intro W hW; have s1 := hW.rn.c1; have t1 := hW.box.cell 1; have t2 := hW.box.cell 2; have t3 := hW.box.cell 3; have t4 := hW.box.cell 4; go_simp; first | rfl)))); (try simp only [Act.put, List.setIfInBounds_toArray, List.set_cons_zero, List.set_cons_succ])
    refine QW.nil ?_
    intro w1 h1
    go_wp2
    go_ret2
    exact .one ⟨((p + 1 : Nat) : Int), by simp, fun tz ht => by cases ht⟩ h1.rn h1.keeps
theorem mr_lit {c : RC} {w : World} {l : Nat} (h : Rn c w (l + 1) false) (hl : l + 1 <= lots) (a b d1 d2 : Int) (t : ByteArray) (A : Option Addr) (n cp p : Nat) (hp : p <= c.s.data.toList.length) (hlen : c.s.data.toList.length <= 1000) (ht : t.size <= 1000) :
    Calls Try.prog 55 #[.pointer (some ⟨c.R, 0, none⟩), .agg #[.int .i64 3, .int .u64 a, .int .u64 b, .int .u64 d1, .int .u64 d2, .string t, .slice A n cp], .int .i64 p] w (Gone c (l + 1) 1 (if litAt c.s.data.toList p t.data.toList = true then some (p + t.size) else none) w) := by
  have hsz : c.s.data.toList.length = c.s.size := size_list _
  have hpf := hasPrefix_any (c.s.extract p c.s.size) t
  have hpe : t.data.toList.isPrefixOf (c.s.extract p c.s.size).data.toList = litAt c.s.data.toList p t.data.toList := by
    rw [Lib.extract_data, <- hsz, litAt, List.take_of_length_le (by rw [List.length_drop]; exact Nat.le_refl _)]
  rw [hpe] at hpf
  rw [hsz] at hp hlen
  have hlt := h.blk.lt
  have s2 := h.c2
  have s3 := h.c3
  have f2 := h.fr 2
  have hpl : ((l + 1 : Nat) : Int) = (l : Int) + 1 := by omega
  rw [hpl] at s2
  have hl0 : ((l : Int) + 1 == 0) = false := by rw [beq_eq_false_iff_ne]; omega
  have hne : w.heap.size ≠ c.R := by omega
  have hl' : l + 1 <= 2000000 := hl
  have HN := Lib.hid (RunC.start h #[.int .i64 3, .int .u64 a, .int .u64 b, .int .u64 d1, .int .u64 d2, .string t, .slice A n cp])
  clear h hl
  clear hpe hsz
  have hwp : IntKind.i64.wrap ((p : Int) + (t.size : Int)) = (p : Int) + (t.size : Int) := wrap_i64 _ (by omega) (by omega)
  have HX : Hid (litAt c.s.data.toList p t.data.toList = litAt c.s.data.toList p t.data.toList) := rfl
  generalize hx : litAt c.s.data.toList p t.data.toList = x at hpf
  generalize hO : (if x = true then some (p + t.size) else none) = o
  have HO := Lib.hid hO
  have HPF := Lib.hid hpf
  clear hpf hx HX hO
  go_enter Try.func55, Try.ntmps55
  go_wp2_with fail
  refine wp_region_q (RunC c w l false #[.int .i64 3, .int .u64 a, .int .u64 b, .int .u64 d1, .int .u64 d2, .string t, .slice A n cp]) (by kernel_rfl) (by kernel_rfl) HN.out.drew ?_
  repeat
    (first | ((with_reducible apply QW.free rfl); · (intro W hW; have s1 := hW.rn.c1; have t5 := hW.box.cell 5; go_simp; first | rfl | (go_at_call 89; refine (HPF.out _).mono ?_; exact fun e w' h => ⟨h.1, hW.below h.2⟩))) | ((with_reducible apply QW.skip rfl); · (first | exact ⟨_, _, rfl, rfl, .inl rfl⟩ | exact ⟨_, _, rfl, rfl, .inr rfl⟩)) | ((with_reducible apply QW.take rfl); (· exact ⟨_, rfl, rfl⟩); (· (intro W hW; have s1 := hW.rn.c1; have t5 := hW.box.cell 5; go_simp; first | rfl | (go_at_call 89; refine (HPF.out _).mono ?_; exact fun e w' h => ⟨h.1, hW.below h.2⟩))))); (try simp only [Act.put, List.setIfInBounds_toArray, List.set_cons_zero, List.set_cons_succ])
  refine QW.nil ?_
  intro w1 h1
  go_wp2
  go_ret2
  have ho := HO.out
  cases x with
  | true =>
    rw [if_pos rfl] at ho
    subst ho
    exact .one ⟨((p + t.size : Nat) : Int), by simp, fun tz ht => by injection ht with ht; rw [ht]⟩ h1.rn h1.keeps
  | false =>
    rw [if_neg (by simp)] at ho
    subst ho
    exact .one ⟨((p + t.size : Nat) : Int), by simp, fun tz ht => by cases ht⟩ h1.rn h1.keeps
theorem mr_ref {c : RC} {w : World} {l : Nat} (h : Rn c w (l + 1) false) (hl : l + 1 <= lots) (a b d1 d2 : Int) (t : ByteArray) (A : Option Addr) (n cp p C : Nat) (o : Option Nat) (j : Nat) (hfd : fnd c.g t.data.toList = (j : Int)) (hj : j < c.g.length)
    (hrun : ∀ (r : Rl) (cs : List Value) (W : World), c.g[j]? = some r -> ExIs W c.B r.2 cs -> Rn c W l false -> Calls Try.prog 55 #[.pointer (some ⟨c.R, 0, none⟩), .agg cs.toArray, .int .i64 p] W (Gone c l C o W)) :
    Calls Try.prog 55 #[.pointer (some ⟨c.R, 0, none⟩), .agg #[.int .i64 4, .int .u64 a, .int .u64 b, .int .u64 d1, .int .u64 d2, .string t, .slice A n cp], .int .i64 p] w (Gone c (l + 1) (1 + C) o w) := by
  have hBR := c.BR
  have hm := h.gram.cap
  have hle := h.gram.le
  unfold maxLen at hm
  obtain ⟨ad, nm, k', a', b', c', d', t', ks', A', cp', hA, hab, hej, hnm, hE, hS⟩ := h.gram.rule hj
  have hfn := fun W (hW : Rn c W l false) => find_any (hW.gram.more (by have := hW.blk.lt; omega)) t
  simp only [hfd, hA] at hfn
  have hcall := fun (W : World) (hW : Rn c W l false) (hb : Below c.B w W) => hrun _ _ W hej ((hE.on hb).keep (Nat.le_refl _) fun _ _ => rfl) hW
  unfold exCells at hcall
  have hcc : ∀ W, Below c.B w W -> Eight W (ad.add (j * 8)) nm k' a' b' c' d' t' A' ks'.length cp' := fun W hW =>
    have hk := fun (q : Addr) (hq : q.block = (ad.add (j * 8)).block) => hW.cell (p := q) (by rw [hq, add_block]; omega)
    ⟨(hk _ rfl).trans hS.c0, (hk ⟨_, _, none⟩ rfl).trans hS.c1, (hk ⟨_, _, none⟩ rfl).trans hS.c2, (hk ⟨_, _, none⟩ rfl).trans hS.c3, (hk ⟨_, _, none⟩ rfl).trans hS.c4, (hk ⟨_, _, none⟩ rfl).trans hS.c5, (hk ⟨_, _, none⟩ rfl).trans hS.c6, (hk ⟨_, _, none⟩ rfl).trans hS.c7⟩
  have hB : c.B <= w.heap.size := by have := h.blk.lt; omega
  have HA := Lib.hid hA
  have hlt := h.blk.lt
  have s2 := h.c2
  have s3 := h.c3
  have f2 := h.fr 2
  have hpl : ((l + 1 : Nat) : Int) = (l : Int) + 1 := by omega
  rw [hpl] at s2
  have hl0 : ((l : Int) + 1 == 0) = false := by rw [beq_eq_false_iff_ne]; omega
  have hne : w.heap.size ≠ c.R := by omega
  have hl' : l + 1 <= 2000000 := hl
  have HN := Lib.hid (RunC.start h #[.int .i64 4, .int .u64 a, .int .u64 b, .int .u64 d1, .int .u64 d2, .string t, .slice A n cp])
  clear h hl
  have HFN := Lib.hid hfn
  have HC := Lib.hid hcall
  have HCC := Lib.hid hcc
  clear hfn hcall hcc hS hE hnm hej hrun hfd hA
  have hj1 : (j : Int) < (c.g.length : Int) := by omega
  go_enter Try.func55, Try.ntmps55
  go_wp2_with fail
  refine wp_region_mid (RunC c w l false #[.int .i64 4, .int .u64 a, .int .u64 b, .int .u64 d1, .int .u64 d2, .string t, .slice A n cp]) 17 _ rfl rfl (by kernel_rfl) (by kernel_rfl) HN.out.drew ?_
  simp only [List.take_succ_cons, List.take_zero]
  repeat
    (first | ((with_reducible apply QW.free rfl); · (intro W hW; have hE0 := HCC.out W (hW.keeps.below hB hBR); obtain ⟨y0, y1, y2, y3, y4, y5, y6, y7⟩ := hE0; have s0 := hW.rn.c0; rw [HA.out] at s0; have t5 := hW.box.cell 5; go_simp; first | (go_at_call 64; refine (HFN.out _ hW.rn).mono ?_; exact fun e w' h => ⟨h.1, hW.below h.2⟩) | rfl)) | ((with_reducible apply QW.skip rfl); · (first | exact ⟨_, _, rfl, rfl, .inl rfl⟩ | exact ⟨_, _, rfl, rfl, .inr rfl⟩)) | ((with_reducible apply QW.take rfl); (· exact ⟨_, rfl, rfl⟩); (· (intro W hW; have hE0 := HCC.out W (hW.keeps.below hB hBR); obtain ⟨y0, y1, y2, y3, y4, y5, y6, y7⟩ := hE0; have s0 := hW.rn.c0; rw [HA.out] at s0; have t5 := hW.box.cell 5; go_simp; first | (go_at_call 64; refine (HFN.out _ hW.rn).mono ?_; exact fun e w' h => ⟨h.1, hW.below h.2⟩) | rfl)))); (try simp only [Act.put, List.setIfInBounds_toArray, List.set_cons_zero, List.set_cons_succ])
  refine QW.nil ?_
  intro w1 h1
  have hE0 := HCC.out w1 (h1.keeps.below hB hBR)
  unfold MidCall
  go_simp
  go_at_call 55
  refine (HC.out _ h1.rn (h1.keeps.below hB hBR)).mono ?_
  rintro e w2 ⟨⟨z, rfl, hz⟩, q1, q2⟩
  generalize hv : (if l < C then none else o) = v at hz ⊢
  have HV := Lib.hid hv
  clear hv
  refine ⟨_, rfl, RunC c w (l - C) (decide (l < C)) #[.int .i64 4, .int .u64 a, .int .u64 b, .int .u64 d1, .int .u64 d2, .string t, .slice A n cp], h1.past hlt q1 q2, ?_⟩
  repeat
    (first | ((with_reducible apply QW.free rfl); · (intro W hW; go_simp; first | rfl)) | ((with_reducible apply QW.skip rfl); · (first | exact ⟨_, _, rfl, rfl, .inl rfl⟩ | exact ⟨_, _, rfl, rfl, .inr rfl⟩)) | ((with_reducible apply QW.take rfl); (· exact ⟨_, rfl, rfl⟩); (· (intro W hW; go_simp; first | rfl)))); (try simp only [Act.put, List.setIfInBounds_toArray, List.set_cons_zero, List.set_cons_succ])
  refine QW.nil ?_
  intro w3 h3
  go_wp2
  go_ret2
  exact Gone.up (w1 := w) ⟨by rw [HV.out]; exact ⟨z, rfl, hz⟩, h3.rn, h3.keeps⟩ (KeepR.refl c w)
end Go.Proofs.Ytkmcnekjimobhaa
