/- (*Parser).try: what a node does, and no more (no one is told). -/
import Derived.Test.YtkmcnekjimobhaaGM
import Derived.Test.YtkmcnekjimobhaaGL
import Derived.Test.YtkmcnekjimobhaaGF
namespace Go.Proofs.Ytkmcnekjimobhaa
open Go.RowKit Go.Maps

/-- right, and its numbers of their width -/
def RtW (g : List Rl) (e : Ex) : Prop := Rt g e ∧ WfE e
/-- what is handed back: how far, and whether -/
def Ret (o : Option Nat) (e : Ending) : Prop := ∃ z : Int, e = .returned (.tuple #[.int .i64 z, .bool o.isSome]) ∧ ∀ to, o = some to → z = (to : Int)
def Went (c : PC) (w : World) (r : Option Nat × PS) (e : Ending) (w' : World) : Prop := Ret r.1 e ∧ Par c w' r.2 ∧ Keeps c w w'
/-- nodes do what the plain parser does, at this fuel -/
def DoesNode (c : PC) (g : List Rl) (m : Nat) : Prop := ∀ (e : Ex) (num p : Nat) (σ : PS) (r : Option Nat × PS) (cs : List Value) (w : World), pk g c.s.data.toList c.hk m (.node e num) p σ = some r → ExIs w c.B e cs → RtW g e → num + nodes e ≤ c.lim → p ≤ c.s.data.toList.length → Bound c.s.data.toList.length σ → Par c w σ →
  Calls Try.prog 111 #[.pointer (some ⟨c.P, 0, none⟩), .agg cs.toArray, .int .i64 num, .int .i64 p] w (Went c w r)
def DoesTry (c : PC) (g : List Rl) (m : Nat) : Prop := ∀ (e : Ex) (num p : Nat) (σ : PS) (r : Option Nat × PS) (cs : List Value) (w : World), pk g c.s.data.toList c.hk m (.try_ e num) p σ = some r → ExIs w c.B e cs → RtW g e → num + nodes e ≤ c.lim → p ≤ c.s.data.toList.length → Bound c.s.data.toList.length σ → Par c w σ →
  Calls Try.prog 80 #[.pointer (some ⟨c.P, 0, none⟩), .agg cs.toArray, .int .i64 num, .int .i64 p] w (Went c w r)

theorem run_nofn (w : World) : Sem.run Try.prog (binOp BinOp.neq 99 Value.nilFunc Value.nilFunc) w = .ok (.bool false) w := by kernel_rfl

set_option maxRecDepth 100000 in
set_option maxHeartbeats 4000000 in
theorem try_none {c : PC} (hok : c.Ok) (hh0 : c.hk = false) (hh : c.hook = .nilFunc) {g : List Rl} {m : Nat} (hN : DoesNode c g m) : DoesTry c g (m + 1) := by
  intro e num p σ r cs w hpk hE hR hnum hp hB h
  have hrf := run_nofn
  have hsz := h.size
  have hb1 := hok.Bb
  obtain ⟨k, a, b, d1, d2, t, A, n, cp, rfl⟩ := e.parts hE
  simp only [pk] at hpk
  cases hn : pk g c.s.data.toList c.hk m (.node e num) p σ with
  | none => rw [hn] at hpk; cases hpk
  | some r1 =>
    rw [hn] at hpk
    obtain ⟨o, σ1⟩ := r1
    have hr : r = (o, σ1) := by simp only [markS, hh0] at hpk; injection hpk with hpk; exact hpk.symm
    subst hr
    have hal : Below w.heap.size w (w.alloc (.cells #[.int .i64 k, .int .u64 a, .int .u64 b, .int .u64 d1, .int .u64 d2, .string t, .slice A n cp] 37)) := (Below.refl _ _).alloc (Nat.le_refl _) _
    have hcall := hN e num p σ (o, σ1) _ _ hn (hE.on (hal.mono (by omega))) hR hnum hp hB (h.below hok hal)
    have HC := Lib.hid hcall
    clear hcall hE hn
    go_enter Try.func80, Try.ntmps80
    go_wp2_with fail
    refine HC.out.mono ?_
    rintro e' w1 ⟨⟨z, rfl, hz⟩, h1, h2⟩
    have s9 : w1.cell? ⟨c.P, 9, none⟩ = some .nilFunc := by rw [← hh]; exact h1.c9
    go_wp2
    go_ret2
    exact ⟨⟨z, rfl, hz⟩, h1, (Keeps.of_below hal).trans h2⟩
def HookF (_ : PC) : Prop := False
theorem try_told {c : PC} (_ : c.Ok) (_ : c.hk = true) (hh : HookF c) {g : List Rl} {m : Nat} (_ : DoesNode c g m) : DoesTry c g (m + 1) := hh.elim
/-- no one is told, or cover's -/
def HookOk (c : PC) : Prop := (c.hk = false ∧ c.hook = .nilFunc) ∨ (c.hk = true ∧ HookF c)
theorem try_any {c : PC} (hok : c.Ok) (hh : HookOk c) {g : List Rl} {m : Nat} (hN : DoesNode c g m) : DoesTry c g (m + 1) := by
  rcases hh with hh | hh
  · exact try_none hok hh.1 hh.2 hN
  · exact try_told hok hh.1 hh.2 hN
theorem DoesTry.le {c : PC} {g : List Rl} {m m' : Nat} (h : DoesTry c g m) (hm : m' ≤ m) : DoesTry c g m' := fun e num p σ r cs w hpk => h e num p σ r cs w (pk_le hpk hm)
theorem DoesNode.le {c : PC} {g : List Rl} {m m' : Nat} (h : DoesNode c g m) (hm : m' ≤ m) : DoesNode c g m' := fun e num p σ r cs w hpk => h e num p σ r cs w (pk_le hpk hm)
end Go.Proofs.Ytkmcnekjimobhaa

/- (*Parser).seq. -/
namespace Go.Proofs.Ytkmcnekjimobhaa
open Go.RowKit Go.Maps

set_option maxRecDepth 100000 in
set_option maxHeartbeats 8000000 in
theorem seq_any {c : PC} (hok : c.Ok) {g : List Rl} {m : Nat} (hT : DoesTry c g m) (k a b d1 d2 : Int) (t : ByteArray) (ks : List Ex) (num p : Nat) (σ : PS) (r : Option Nat × PS) (cs : List Value) (w : World)
    (hpk : pk g c.s.data.toList c.hk m (.seq ks (num + 1)) p σ = some r) (hE : ExIs w c.B (.mk k a b d1 d2 t ks) cs) (hR : ∀ e ∈ ks, RtW g e) (hnum : num + 1 + nodesAll ks ≤ c.lim) (hp : p ≤ c.s.data.toList.length) (hB : Bound c.s.data.toList.length σ) (h : Par c w σ) :
    Calls Try.prog 132 #[.pointer (some ⟨c.P, 0, none⟩), .agg cs.toArray, .int .i64 num, .int .i64 p] w (Went c w r) := by
  have hsz := h.size
  have hb1 := hok.Bb
  have hb2 := hok.BP
  have hb3 := hok.BM
  obtain ⟨ht, KA, kcp, rfl, hkc, hkm, _⟩ := hE.shape
  unfold exCells
  have hal : Below w.heap.size w (w.alloc (.cells #[.int .i64 k, .int .u64 a, .int .u64 b, .int .u64 d1, .int .u64 d2, .string t, .slice KA ks.length kcp] 37)) := (Below.refl _ _).alloc (Nat.le_refl _) _
  have hpar := h.below hok hal
  have hkp : Keeps c w (w.alloc (.cells #[.int .i64 k, .int .u64 a, .int .u64 b, .int .u64 d1, .int .u64 d2, .string t, .slice KA ks.length kcp] 37)) := Keeps.of_below hal
  have hm8 : ks.length ≤ 9223372036854775807 := by unfold maxLen at hkm; omega
  have hnum' : num + 1 + nodesAll ks ≤ c.lim := hnum
  have hlim := hok.lim
  have HE := Lib.hid hE
  have HT := Lib.hid hT
  have HPK := Lib.hid hpk
  have HRR := Lib.hid hR
  have HB := Lib.hid hB
  clear hE hT hpk hR hB hnum
  go_enter Try.func132, Try.ntmps132
  go_wp2
  go_loopw [3, 10, 20] (fun q n i wr => ∃ j q' n' : Nat, ∃ σ' : PS, j ≤ ks.length ∧ i = .int .i64 j ∧ q = .int .i64 q' ∧ n = .int .i64 n' ∧ n' + nodesAll (ks.drop j) ≤ c.lim ∧ q' ≤ c.s.data.toList.length ∧ Hid (pk g c.s.data.toList c.hk m (.seq (ks.drop j) n') q' σ' = some r) ∧ Hid (Bound c.s.data.toList.length σ') ∧ Par c wr σ' ∧ Keeps c w wr) (fun _ _ i _ => ks.length - (intOf i).toNat)
  case atStart => exact ⟨0, p, num + 1, σ, by omega, rfl, rfl, by go_num, hnum', hp, HPK, HB, hpar, hkp⟩
  case round =>
    clear hpar hkp h hp
    obtain ⟨j, q, n, σ', hj, rfl, rfl, rfl, hn, hq, HP, HB', hpar', hk'⟩ := hrel
    have hzr := hk'.size
    by_cases hjk : j < ks.length
    · have hbw : Below c.B w wr := hk'.below (by omega) hb2 hb3 hb1
      obtain ⟨ad, k', a', b', c', d', t', ks', A', cp', rfl, hab, hej, hE', ⟨e0, e1, e2, e3, e4, e5, e6⟩⟩ := (HE.out.on hbw).kid hjk
      have hpk' := HP.out
      rw [drop_of hej] at hpk' hn
      rw [nodesAll] at hn
      cases m with
      | zero => cases hpk'
      | succ m' =>
      simp only [pk] at hpk'
      cases he : pk g c.s.data.toList c.hk m' (.try_ (.mk k' a' b' c' d' t' ks') n) q σ' with
      | none => rw [he] at hpk'; cases hpk'
      | some r1 =>
      obtain ⟨o, σ1⟩ := r1
      rw [he] at hpk'
      have hbd := pk_bound _ _ _ _ _ _ _ _ _ he hq HB'.out
      have hcall := fun W (hW : Below wr.heap.size wr W) => HT.out.le (Nat.le_succ m') _ n q σ' (o, σ1) _ W he (hE'.on (hW.mono (by omega))) (HRR.out _ (List.mem_of_getElem? hej)) (by omega) hq HB'.out (hpar'.below hok hW)
      have hcn := fun W (hW : Below c.B wr W) => count_any _ _ W ((hE'.on hW).keep (by have := hW.size; omega) fun _ _ => rfl) (by omega)
      have HCN := Lib.hid hcn
      have HC := Lib.hid hcall
      have HPQ := Lib.hid hpk'
      have HBD := Lib.hid hbd
      clear hcn hcall hpk' hbd he hej hE' hpar'
      go_wp2_with fail
      refine (HC.out _ (by repeat (first | exact Below.refl _ _ | assumption | refine Below.drew ?_ | refine below_drewN ?_ _ | refine Below.alloc ?_ (by first | omega | (simp; omega) | simp) _ | refine Below.setCell ?_ (by first | omega | (simp; omega) | simp) _))).mono ?_
      rintro e' w2 ⟨⟨z, rfl, hz⟩, h1, h2⟩
      have hbx : Blk w2 wr.heap.size 37 #[.int .i64 k', .int .u64 a', .int .u64 b', .int .u64 c', .int .u64 d', .string t', .slice A' ks'.length cp'] := h2.box (blk_at rfl) (by decide) (by have := hok.P; omega) (by have := hok.M; omega)
      have hk2 : Keeps c w w2 := (hk'.alloc _).trans h2
      cases o with
      | none =>
        have hr : r = (none, σ1) := by have := HPQ.out; simp only [Option.some.injEq] at this; exact this.symm
        subst hr
        go_wp2
        go_ret2
        exact ⟨⟨0, rfl, fun to ht => by cases ht⟩, h1, hk2⟩
      | some to =>
        obtain rfl := hz to rfl
        have x0 : w2.cell? ⟨wr.heap.size, 0, none⟩ = some (.int .i64 k') := hbx.cell 0; have x1 : w2.cell? ⟨wr.heap.size, 1, none⟩ = some (.int .u64 a') := hbx.cell 1; have x2 : w2.cell? ⟨wr.heap.size, 2, none⟩ = some (.int .u64 b') := hbx.cell 2; have x3 : w2.cell? ⟨wr.heap.size, 3, none⟩ = some (.int .u64 c') := hbx.cell 3; have x4 : w2.cell? ⟨wr.heap.size, 4, none⟩ = some (.int .u64 d') := hbx.cell 4; have x5 : w2.cell? ⟨wr.heap.size, 5, none⟩ = some (.string t') := hbx.cell 5; have x6 : w2.cell? ⟨wr.heap.size, 6, none⟩ = some (.slice A' ks'.length cp') := hbx.cell 6
        have hbw2 : Below c.B wr w2 := ((Below.refl _ _).alloc (by omega) _).trans (h2.below (by simp; omega) hb2 hb3 hb1)
        go_wp2_with fail
        refine (HCN.out w2 hbw2).mono ?_
        rintro e' w3 ⟨rfl, hb3'⟩
        go_wp2
        go_roundw
        case rel => exact ⟨j + 1, to, n + nodes (.mk k' a' b' c' d' t' ks'), σ1, by omega, by go_num, rfl, by go_num, by omega, HBD.out.1 to rfl, Lib.hid (pk_le HPQ.out (Nat.le_succ _)), Lib.hid HBD.out.2, h1.below hok hb3', hk2.trans (Keeps.of_below hb3')⟩
        case measure => simp [intOf]; omega
    · obtain rfl : j = ks.length := by omega
      have hpk' := HP.out
      rw [List.drop_length] at hpk'
      have hr : r = (some q, σ') := by
        cases m with
        | zero => cases hpk'
        | succ m' => simp only [pk, Option.some.injEq] at hpk'; exact hpk'.symm
      subst hr
      go_wp2
      go_ret2
      exact ⟨⟨q, rfl, fun to ht => by injection ht with ht; rw [ht]⟩, hpar', hk'⟩
end Go.Proofs.Ytkmcnekjimobhaa
