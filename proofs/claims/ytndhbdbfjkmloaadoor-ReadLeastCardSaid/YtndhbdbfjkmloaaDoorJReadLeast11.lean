/- The reader's other small steps: Names, begins, Over, Bad, End, New. The reader's four rules: what they leave. The reader's sequences. -/
import Derived.Test.YtndhbdbfjkmloaaDoorJReadLeast10
import Derived.Test.YtndhbdbfjkmloaaDoorJReadLeast5
import Derived.Deep.LoopGhost
import Derived.Deep.DeepCutAuto
namespace Go.Proofs.YtndhbdbfjkmloaaDoor
open Go.RowKit

theorem prefix2 (l : List UInt8) : ([60, 45] : List UInt8).isPrefixOf l = decide (l.take 2 = [60, 45]) := by
  match l with
  | [] => rfl
  | [a] =>
    rw [show decide ([a].take 2 = [60, 45]) = false from decide_eq_false (by simp)]
    show (((60 : UInt8) == a) && false) = false
    simp
  | a :: b :: r =>
    show (((60 : UInt8) == a) && (((45 : UInt8) == b) && true)) = decide ([a, b] = [60, 45])
    by_cases h1 : a = 60
    · by_cases h2 : b = 45
      · subst h1 h2; rfl
      · have : ((45 : UInt8) == b) = false := by rw [beq_eq_false_iff_ne]; exact fun e => h2 e.symm
        rw [this, decide_eq_false (fun e => h2 (by injection e with _ e; injection e))]
        simp
    · have : ((60 : UInt8) == a) = false := by rw [beq_eq_false_iff_ne]; exact fun e => h1 e.symm
      rw [this, decide_eq_false (fun e => h1 (by injection e))]
      simp
set_option maxRecDepth 100000 in
set_option maxHeartbeats 4000000 in
theorem names_any (s : ByteArray) (hs : s.size ≤ 100000) (h : Bool) (rb : Nat) (l : List UInt8) (w : World) (H : RdAt s h rb l w) :
    Calls Tryd.prog 67 #[.pointer (some ⟨rb, 0, none⟩)] w fun e w' => e = .returned (.bool (namesL h l)) ∧ Below w.heap.size w w' := by
  obtain ⟨hp1, hp2, hp3⟩ := H.pos
  have hn := tkn_le l
  have hb := H.blk
  rw [rdC_get] at hb
  have x0 := hb.cell 0
  have x1 := hb.cell 1
  have x3 := hb.cell 3
  have x4 := hb.cell 4
  have x5 := hb.cell 5
  have hi0 : posL s l + tkn (tokL l) ≤ s.size := by omega
  have hg : goL l (tkn (tokL l)) = skipL false (s.data.toList.drop (posL s l + tkn (tokL l))) := by
    unfold goL
    rw [← List.drop_drop, ← hp2]
  have hv : (tkV (tokL l)).n = tkn (tokL l) := rfl
  rw [hv] at x3
  by_cases hh : h = true
  · subst hh
    cases ht : tokL l with
    | nd e n =>
      obtain ⟨k, a, b, c, d, t, ks⟩ := e
      have hnn : tkn (tokL l) = n := by rw [ht]; rfl
      rw [ht] at x4 x5
      have x4' : w.cell? ⟨rb, 4, none⟩ = some (.bool true) := x4
      have x5' : w.cell? ⟨rb, 5, none⟩ = some (.int .i64 k) := x5
      have hr : namesL true l = (decide (k = 4) && decide ((goL l n).take 2 = [60, 45])) := by unfold namesL; rw [ht]; rfl
      rw [hr]
      rw [hnn] at x3 hi0 hg
      by_cases hk : k = 4
      · have hk1 : (k != 4) = false := by rw [hk]; rfl
        rw [decide_eq_true hk, Bool.true_and]
        have HSK := Lib.hid (fun (W : World) (hW : Below w.heap.size w W) => skip_any s (by omega) rb (posL s l + n) hi0 W ((hW.cell (p := ⟨rb, 0, none⟩) H.blk.lt).trans x0))
        obtain ⟨m, hm, hd⟩ := skip_drop false (s.data.toList.drop (posL s l + n))
        rw [List.length_drop, size_list] at hm
        rw [List.drop_drop] at hd
        have hpp : posL s (skipL false (s.data.toList.drop (posL s l + n))) = posL s l + n + m := by rw [hd]; exact posL_drop (by omega)
        rw [hpp] at HSK
        have hpl : posL s l + n + m ≤ s.size := by omega
        have hu : (s.extract (posL s l + n + m) s.size).data.toList = goL l n := by rw [Lib.extract_to_end, hg, hd]
        have HPX : Hid (∀ W, Calls Tryd.prog 93 #[.string (s.extract (posL s l + n + m) s.size), .string ⟨#[60, 45]⟩] W fun e w' => e = .returned (.bool (decide ((goL l n).take 2 = [60, 45]))) ∧ Below W.heap.size W w') := fun W => by
          have := hasPrefixX_any (s.extract (posL s l + n + m) s.size) ⟨#[60, 45]⟩ W
          rw [hu] at this
          rw [← prefix2]
          exact this
        clear hr hg hd hm hpp hu hn hp1 hp2 hp3 hb x4 x5 hnn ht hv
        generalize posL s l + n + m = p at HSK HPX hpl
        generalize decide ((goL l n).take 2 = [60, 45]) = r at HPX ⊢
        generalize posL s l + n = i0 at HSK x3 hi0
        have hlt := H.blk.lt
        clear H
        go_enter Tryd.func67, Tryd.ntmps67
        go_wp2_with fail
        refine wp_region_q (fun W => Below w.heap.size w W) (by kernel_rfl) (by kernel_rfl) (Below.refl _ _).drew ?_
        repeat
          (first | ((with_reducible apply QW.free rfl); · (intro W hW; have g0 := (hW.cell (p := ⟨rb, 0, none⟩) hlt).trans x0; have g3 := (hW.cell (p := ⟨rb, 3, none⟩) hlt).trans x3; go_simp; first | (go_at_call 94; refine (HSK.out _ hW).mono ?_; rintro e w' ⟨rfl, rfl⟩; exact ⟨rfl, hW⟩) | (go_at_call 93; refine (HPX.out _).mono ?_; rintro e w' ⟨rfl, hbb⟩; exact ⟨rfl, hW.trans (hbb.mono hW.size)⟩) | rfl)) | ((with_reducible apply QW.skip rfl); · (first | exact ⟨_, _, rfl, rfl, .inl rfl⟩ | exact ⟨_, _, rfl, rfl, .inr rfl⟩)) | ((with_reducible apply QW.take rfl); (· exact ⟨_, rfl, rfl⟩); (· (intro W hW; have g0 := (hW.cell (p := ⟨rb, 0, none⟩) hlt).trans x0; have g3 := (hW.cell (p := ⟨rb, 3, none⟩) hlt).trans x3; go_simp; first | (go_at_call 94; refine (HSK.out _ hW).mono ?_; rintro e w' ⟨rfl, rfl⟩; exact ⟨rfl, hW⟩) | (go_at_call 93; refine (HPX.out _).mono ?_; rintro e w' ⟨rfl, hbb⟩; exact ⟨rfl, hW.trans (hbb.mono hW.size)⟩) | rfl)))); (try simp only [Act.put, List.setIfInBounds_toArray, List.set_cons_zero, List.set_cons_succ])
        refine QW.nil ?_
        intro w1 q1
        go_wp2
        go_ret
        exact ⟨rfl, q1⟩
      · have hk1 : (k != 4) = true := by rw [bne_iff_ne]; exact hk
        rw [decide_eq_false hk, Bool.false_and]
        clear hb x4 x5 hp1 hp2 hp3 hg hr hn hv hnn ht hi0 x3 H
        go_enter Tryd.func67, Tryd.ntmps67
        go_wp2
        go_ret
        exact ⟨rfl, Below.refl _ _⟩
    | _ =>
      have hr : namesL true l = false := by unfold namesL; rw [ht]
      rw [hr]
      rw [ht] at x4
      have x4' : w.cell? ⟨rb, 4, none⟩ = some (.bool false) := x4
      clear hb x4 x5 hp1 hp2 hp3 hg hr hn hv ht hi0 x3 H
      go_enter Tryd.func67, Tryd.ntmps67
      go_wp2
      go_ret
      exact ⟨rfl, Below.refl _ _⟩
  · have hh' : h = false := by simpa using hh
    subst hh'
    rw [names_no]
    clear hb x4 x5 hp1 hp2 hp3 hg hn hv hi0 x3 H
    go_enter Tryd.func67, Tryd.ntmps67
    go_wp2
    go_ret
    exact ⟨rfl, Below.refl _ _⟩
theorem nat_beq (c k : Nat) : ((c : Int) == (k : Int)) = decide (c = k) := by
  by_cases h : c = k
  · subst h; simp
  · rw [decide_eq_false h, beq_eq_false_iff_ne]; omega
set_option maxRecDepth 100000 in
set_option maxHeartbeats 4000000 in
theorem begins_any (s : ByteArray) (hs : s.size ≤ 100000) (h : Bool) (rb : Nat) (l : List UInt8) (w : World) (H : RdAt s h rb l w) :
    Calls Tryd.prog 119 #[.pointer (some ⟨rb, 0, none⟩)] w fun e w' => e = .returned (.bool (begL h l)) ∧ Below w.heap.size w w' := by
  have hb := H.blk
  have HG := H.good
  have hlt := hb.lt
  rw [rdC_get] at hb
  have HN := Lib.hid (names_any s hs h rb l w H)
  have x4 := hb.cell 4
  have x12 := hb.cell 12
  have hb0 : begL h l = match tokL l with
    | .nd _ _ => !namesL h l
    | .sg c _ => decide (c = 40 ∨ c = 38 ∨ c = 33)
    | _ => false := rfl
  cases ht : tokL l with
  | bad => rw [ht] at HG; cases HG
  | fin =>
    rw [ht] at x4 x12 hb0
    have x4' : w.cell? ⟨rb, 4, none⟩ = some (.bool false) := x4
    have x12' : w.cell? ⟨rb, 12, none⟩ = some (.int .u8 0) := x12
    rw [hb0]
    clear x4 x12 hb hb0 H
    go_enter Tryd.func119, Tryd.ntmps119
    go_wp2
    go_ret
    exact ⟨rfl, Below.refl _ _⟩
  | nd e n =>
    obtain ⟨k, a, b, c, d, t, ks⟩ := e
    rw [ht] at x4 x12 hb0
    have x4' : w.cell? ⟨rb, 4, none⟩ = some (.bool true) := x4
    have x12' : w.cell? ⟨rb, 12, none⟩ = some (.int .u8 0) := x12
    rw [hb0]
    clear x4 x12 hb hb0 H
    generalize namesL h l = r at HN ⊢
    cases r
    all_goals
      go_enter Tryd.func119, Tryd.ntmps119
      go_wp2_with fail
      refine HN.out.mono ?_
      rintro e w1 ⟨rfl, hb1⟩
      have y12 : w1.cell? ⟨rb, 12, none⟩ = some (.int .u8 0) := (hb1.cell (p := ⟨rb, 12, none⟩) hlt).trans x12'
      go_wp2
      go_ret
      exact ⟨rfl, hb1⟩
  | sg c n =>
    rw [ht] at x4 x12 hb0
    have x4' : w.cell? ⟨rb, 4, none⟩ = some (.bool false) := x4
    have x12' : w.cell? ⟨rb, 12, none⟩ = some (.int .u8 (c : Int)) := x12
    have hb1 : begL h l = decide (c = 40 ∨ c = 38 ∨ c = 33) := hb0
    rw [hb1]
    clear x4 x12 hb hb0 hb1 H
    by_cases h1 : c = 40
    · have e1 : ((c : Int) == 40) = true := by rw [h1]; rfl
      rw [decide_eq_true (show c = 40 ∨ c = 38 ∨ c = 33 from .inl h1)]
      go_enter Tryd.func119, Tryd.ntmps119
      go_wp2
      go_ret
      exact ⟨rfl, Below.refl _ _⟩
    · have e1 : ((c : Int) == 40) = false := by rw [beq_eq_false_iff_ne]; omega
      by_cases h2 : c = 38
      · have e2 : ((c : Int) == 38) = true := by rw [h2]; rfl
        rw [decide_eq_true (show c = 40 ∨ c = 38 ∨ c = 33 from .inr (.inl h2))]
        go_enter Tryd.func119, Tryd.ntmps119
        go_wp2
        go_ret
        exact ⟨rfl, Below.refl _ _⟩
      · have e2 : ((c : Int) == 38) = false := by rw [beq_eq_false_iff_ne]; omega
        obtain ⟨r, hr⟩ : ∃ r, decide (c = 33) = r := ⟨_, rfl⟩
        have e3 : ((c : Int) == 33) = r := by rw [← hr]; exact nat_beq c 33
        have e4 : decide (c = 40 ∨ c = 38 ∨ c = 33) = r := by rw [← hr]; simp [h1, h2]
        rw [e4]
        clear e4 hr
        go_enter Tryd.func119, Tryd.ntmps119
        go_wp2
        go_ret
        exact ⟨rfl, Below.refl _ _⟩
set_option maxRecDepth 100000 in
set_option maxHeartbeats 4000000 in
theorem over_any (s : ByteArray) (h : Bool) (rb : Nat) (l : List UInt8) (w : World) (H : RdAt s h rb l w) :
    Calls Tryd.prog 70 #[.pointer (some ⟨rb, 0, none⟩)] w fun e w' => e = .returned (.bool (tokL l).isFin) ∧ w' = w := by
  have hb := H.blk
  have HG := H.good
  rw [rdC_get] at hb
  have x4 := hb.cell 4
  have x12 := hb.cell 12
  cases ht : tokL l with
  | bad => rw [ht] at HG; cases HG
  | fin =>
    rw [ht] at x4 x12
    have x4' : w.cell? ⟨rb, 4, none⟩ = some (.bool false) := x4
    have x12' : w.cell? ⟨rb, 12, none⟩ = some (.int .u8 0) := x12
    clear x4 x12 hb H
    go_enter Tryd.func70, Tryd.ntmps70
    go_wp2
    go_ret
    exact ⟨rfl, rfl⟩
  | nd e n =>
    obtain ⟨k, a, b, c, d, t, ks⟩ := e
    rw [ht] at x4 x12
    have x4' : w.cell? ⟨rb, 4, none⟩ = some (.bool true) := x4
    clear x4 x12 hb H
    go_enter Tryd.func70, Tryd.ntmps70
    go_wp2
    go_ret
    exact ⟨rfl, rfl⟩
  | sg c n =>
    have hc := (tok_sgn ht).2.2.1
    rw [ht] at x4 x12
    have x4' : w.cell? ⟨rb, 4, none⟩ = some (.bool false) := x4
    have x12' : w.cell? ⟨rb, 12, none⟩ = some (.int .u8 (c : Int)) := x12
    have e1 : ((c : Int) == 0) = false := by rw [beq_eq_false_iff_ne]; omega
    clear x4 x12 hb H hc
    go_enter Tryd.func70, Tryd.ntmps70
    go_wp2
    go_ret
    exact ⟨rfl, rfl⟩
set_option maxRecDepth 100000 in
theorem badR_any (s : ByteArray) (h : Bool) (rb : Nat) (l : List UInt8) (w : World) (H : RdAt s h rb l w) :
    Calls Tryd.prog 68 #[.pointer (some ⟨rb, 0, none⟩)] w fun e w' => e = .panicked [{ v := faultV (posL s l), recovered := false }] ∧ w' = w := by
  have hb := H.blk
  rw [rdC_get] at hb
  have x2 := hb.cell 2
  generalize posL s l = p at x2 ⊢
  clear hb H
  go_enter Tryd.func68, Tryd.ntmps68
  go_wp2_with fail
  refine (bad_any p _).mono ?_
  rintro e w1 ⟨rfl, rfl⟩
  go_wp2
  exact ⟨rfl, rfl, rfl⟩
set_option maxRecDepth 100000 in
theorem end_any (s : ByteArray) (h : Bool) (rb : Nat) (l : List UInt8) (w : World) (H : RdAt s h rb l w) :
    Calls Tryd.prog 64 #[.pointer (some ⟨rb, 0, none⟩)] w fun e w' => w' = w ∧ (((tokL l).isFin = true ∧ e = .returned (.tuple #[])) ∨ ((tokL l).isFin = false ∧ e = .panicked [{ v := faultV (posL s l), recovered := false }])) := by
  have HO := Lib.hid (over_any s h rb l w H)
  have HBD := Lib.hid (badR_any s h rb l w H)
  generalize posL s l = p at HBD ⊢
  generalize (tokL l).isFin = r at HO ⊢
  cases r
  · go_enter Tryd.func64, Tryd.ntmps64
    go_wp2_with fail
    refine HO.out.mono ?_
    rintro e w1 ⟨rfl, hw1⟩
    subst w1
    go_wp2_with fail
    refine HBD.out.mono ?_
    rintro e w1 ⟨rfl, hw1⟩
    subst w1
    go_wp2
    first | exact ⟨rfl, rfl, .inr ⟨trivial, rfl⟩⟩ | exact ⟨rfl, rfl, rfl⟩ | exact ⟨rfl, trivial, .inr ⟨rfl, rfl⟩⟩ | simp
  · go_enter Tryd.func64, Tryd.ntmps64
    go_wp2_with fail
    refine HO.out.mono ?_
    rintro e w1 ⟨rfl, hw1⟩
    subst w1
    go_wp2
    go_end0
    first | exact ⟨rfl, .inl ⟨rfl, rfl⟩⟩ | exact ⟨trivial, .inl ⟨rfl, rfl⟩⟩ | simp
end Go.Proofs.YtndhbdbfjkmloaaDoor
namespace Go.Proofs.YtndhbdbfjkmloaaDoor
open Go.RowKit

/-- what a rule leaves that reads R -/
def PrsQ (s : ByteArray) (h : Bool) (rb : Nat) (w : World) (R : Rs) (e : Ending) (w' : World) : Prop :=
  w.grownBy w' (some rb) ∧ match R with
    | .ok x l => (∃ cs, e = .returned (.agg cs.toArray) ∧ ExF (fun b => w.heap.size ≤ b ∧ b < w'.heap.size) w'.heap.size w' x cs) ∧ RdAt s h rb l w'
    | .no l => e = .panicked [{ v := faultV (posL s l), recovered := false }]
/-- what the rules do at a fuel -/
structure DoesR (s : ByteArray) (h : Bool) (rb : Nat) (f : Nat) : Prop where
  alt : ∀ (l : List UInt8) (R : Rs) (w : World), RdAt s h rb l w → rdJ h f .alt l = some R → Calls Tryd.prog 63 #[.pointer (some ⟨rb, 0, none⟩)] w (PrsQ s h rb w R)
  seq : ∀ (l : List UInt8) (R : Rs) (w : World), RdAt s h rb l w → rdJ h f .seq l = some R → Calls Tryd.prog 92 #[.pointer (some ⟨rb, 0, none⟩)] w (PrsQ s h rb w R)
  pre : ∀ (l : List UInt8) (R : Rs) (w : World), RdAt s h rb l w → rdJ h f .pre l = some R → Calls Tryd.prog 118 #[.pointer (some ⟨rb, 0, none⟩)] w (PrsQ s h rb w R)
  pri : ∀ (l : List UInt8) (R : Rs) (w : World), RdAt s h rb l w → rdJ h f .pri l = some R → Calls Tryd.prog 136 #[.pointer (some ⟨rb, 0, none⟩)] w (PrsQ s h rb w R)
section
variable {base lo rb : Nat} {W W' : World} {es : List Ex} {V : Option Addr} {c : Nat} {rows : Nat → List Value} {e : Ex} {cs : List Value}
theorem KidsX.grownR (h : KidsX base W es V c rows) (hrb : rb < base) (hg : W.grownBy W' (some rb)) : KidsX base W' es V c rows :=
  ⟨own_far h.own hg hrb, fun i e he => ((h.kid i e he).keep (W' := W') fun p hp => World.cell?_of_block (hg.block p.block hp.2.1 (by intro e; injection e with e; have := hp.1; omega))).mono (fun b hb => ⟨hb.1, Nat.lt_of_lt_of_le hb.2.1 hg.size, hb.2.2⟩) hg.size⟩
theorem ExF.grownR (h : ExF (fun b => lo ≤ b ∧ b < W.heap.size) W.heap.size W e cs) (hrb : rb < lo) (hg : W.grownBy W' (some rb)) : ExF (fun b => lo ≤ b ∧ b < W'.heap.size) W'.heap.size W' e cs :=
  (h.keep (W' := W') fun p hp => World.cell?_of_block (hg.block p.block hp.2 (by intro e; injection e with e; have := hp.1; omega))).mono (fun b hb => ⟨hb.1, Nat.lt_of_lt_of_le hb.2 hg.size⟩) hg.size
theorem ExF.allocR (h : ExF (fun b => lo ≤ b ∧ b < W.heap.size) W.heap.size W e cs) (o : Obj) : ExF (fun b => lo ≤ b ∧ b < (W.alloc o).heap.size) (W.alloc o).heap.size (W.alloc o) e cs :=
  (h.keep (W' := W.alloc o) fun p hp => World.cell?_alloc_lt W o p hp.2).mono (fun b hb => ⟨hb.1, by simp; omega⟩) (by simp)
/-- a row of one kid, just made -/
theorem KidsX.one (h : ExF (fun b => lo ≤ b ∧ b < W.heap.size) W.heap.size W e cs) (hlo : base ≤ lo) (hb : base ≤ W.heap.size) : KidsX base (W.alloc (.cells cs.toArray 27)) [e] (some ⟨W.heap.size, 0, none⟩) 1 (fun _ => cs) := by
  have h7 := h.len7
  refine ⟨⟨by simp [kdF, h7], .inr ⟨W.heap.size, 1, cs.toArray, rfl, hb, heap_alloc_new W _, Nat.le_refl _, by simp [maxLen], by simp [h7], ?_⟩⟩, fun i x hx => ?_⟩
  · simp [kdF, ← h7]
  · match i, hx with
    | 0, hx =>
      simp at hx
      subst hx
      refine (h.keep (W' := W.alloc (.cells cs.toArray 27)) fun p hp => World.cell?_alloc_lt W _ p hp.2).mono (fun b hb' => ⟨Nat.le_trans hlo hb'.1, by simp; omega, ?_⟩) (by simp)
      intro e
      injection e with e
      have := hb'.2
      simp at e
      omega
/-- growth of a row that was made since -/
theorem grownNew {w : World} {r : Option Nat} (h : w.grownBy W (some rb)) (hg : W.grownBy W' r) (hr : ∀ q, r = some q → w.heap.size ≤ q) : w.grownBy W' (some rb) :=
  ⟨hg.os.trans h.os, hg.tape.trans h.tape, hg.output.trans h.output, Nat.le_trans h.size hg.size, fun k hk hne => (hg.block k (Nat.lt_of_lt_of_le hk h.size) (fun e => by have := hr k e.symm; omega)).trans (h.block k hk hne)⟩
theorem KidsX.first (h : KidsX base W [e] V c rows) : ∃ ad : Addr, V = some ad ∧ ExF (fun b => base ≤ b ∧ b < W.heap.size) W.heap.size W e (rows 0) ∧ ∀ j u, (rows 0)[j]? = some u → W.cell? (ad.add j) = some u := by
  obtain ⟨h1, h2, h3, h4, h5⟩ := h.shape
  obtain ⟨ad, hV, _⟩ := h4 (by simp)
  refine ⟨ad, hV, (h.kid 0 e rfl).mono (fun b hb => ⟨hb.1, hb.2.1⟩) (Nat.le_refl _), fun j u hu => ?_⟩
  have := h5 0 e ad rfl hV j u hu
  rw [Nat.zero_mul] at this
  rw [← this]
  unfold World.cell? Addr.add
  simp
end
end Go.Proofs.YtndhbdbfjkmloaaDoor
namespace Go.Proofs.YtndhbdbfjkmloaaDoor
open Go.RowKit

theorem oneOr_ne {k : Int} {acc : List Ex} (h : acc.length ≠ 1) : oneOr k acc = .mk k 0 0 0 0 ⟨#[]⟩ acc := by
  unfold oneOr
  split
  · exact absurd rfl h
  · rfl
section
variable {base rb k : Nat} {w W : World} {e : Ex} {V : Option Addr} {c : Nat} {rows : Nat → List Value} {es : List Ex}
theorem grown_set7 (h : w.grownBy W (some rb)) (hk : w.heap.size ≤ k) (u0 u1 u2 u3 u4 u5 u6 : Value) : w.grownBy (((((((W.setCell ⟨k, 0, none⟩ u0).setCell ⟨k, 1, none⟩ u1).setCell ⟨k, 2, none⟩ u2).setCell ⟨k, 3, none⟩ u3).setCell ⟨k, 4, none⟩ u4).setCell ⟨k, 5, none⟩ u5).setCell ⟨k, 6, none⟩ u6) (some rb) :=
  have hs := fun (X : World) (hX : w.grownBy X (some rb)) (i : Nat) (u : Value) => grownNew (W' := X.setCell ⟨k, i, none⟩ u) hX (grownSet (World.grownBy.refl X (some k)) i u) (fun q hq => by injection hq with hq; omega)
  hs _ (hs _ (hs _ (hs _ (hs _ (hs _ (hs _ h 0 u0) 1 u1) 2 u2) 3 u3) 4 u4) 5 u5) 6 u6
theorem RdAt.set7 {s : ByteArray} {h : Bool} {l : List UInt8} (H : RdAt s h rb l W) (hk : rb ≠ k) (u0 u1 u2 u3 u4 u5 u6 : Value) : RdAt s h rb l (((((((W.setCell ⟨k, 0, none⟩ u0).setCell ⟨k, 1, none⟩ u1).setCell ⟨k, 2, none⟩ u2).setCell ⟨k, 3, none⟩ u3).setCell ⟨k, 4, none⟩ u4).setCell ⟨k, 5, none⟩ u5).setCell ⟨k, 6, none⟩ u6) :=
  ⟨((((((H.blk.far hk _).far hk _).far hk _).far hk _).far hk _).far hk _).far hk _, H.sfx, H.good⟩
theorem KidsX.at (h : KidsX base W es V c rows) (hp : 0 < es.length) : ∃ g, V = some ⟨g, 0, none⟩ ∧ base ≤ g ∧ g < W.heap.size := by
  have hlt := h.own.lt
  rcases h.own.2 with ⟨_, h2⟩ | ⟨g, cap, cur, hv, hg, hh, _⟩
  · omega
  · injection hv with hv
    subst hv
    exact ⟨g, rfl, hg, (hlt g rfl).2⟩
theorem KidsX.one_at {g : Nat} (h : KidsX base W [e] (some ⟨g, 0, none⟩) c rows) : ExF (fun b => base ≤ b ∧ b < W.heap.size) W.heap.size W e (rows 0) ∧ ∀ j u, (rows 0)[j]? = some u → W.cell? ⟨g, j, none⟩ = some u := by
  obtain ⟨h1, h2, h3, h4, h5⟩ := h.shape
  refine ⟨(h.kid 0 e rfl).mono (fun b hb => ⟨hb.1, hb.2.1⟩) (Nat.le_refl _), fun j u hu => ?_⟩
  have := h5 0 e ⟨g, 0, none⟩ rfl rfl j u hu
  rw [Nat.zero_mul] at this
  rw [← this]
  cases j <;> simp [World.cell?, Addr.add]
end
/-- while a row of kids is read -/
structure SqI (s : ByteArray) (h : Bool) (rb : Nat) (w : World) (acc : List Ex) (V : Option Addr) (cv : Nat) (rows : Nat → List Value) (l : List UInt8) (wr : World) : Prop where
  grown : w.grownBy wr (some rb)
  box : Blk wr w.heap.size 27 #[.int .i64 0, .int .u64 0, .int .u64 0, .int .u64 0, .int .u64 0, .string ⟨#[]⟩, .slice none 0 0]
  kids : KidsX (w.heap.size + 1) wr acc V cv rows
  rd : RdAt s h rb l wr
  pos : 0 < acc.length
  few : acc.length + l.length ≤ s.size + 1
  old : rb < w.heap.size
section
variable {s : ByteArray} {h : Bool} {rb : Nat} {w : World} {acc : List Ex} {V : Option Addr} {cv : Nat} {rows : Nat → List Value} {l l' : List UInt8} {wr W' : World}
theorem SqI.ne (H : SqI s h rb w acc V cv rows l wr) : some w.heap.size ≠ (Value.slice V acc.length cv).ownBlock ∧ some rb ≠ (Value.slice V acc.length cv).ownBlock :=
  ⟨fun e => by have := (H.kids.own.lt _ e.symm).1; omega, fun e => by have := (H.kids.own.lt _ e.symm).1; have := H.old; omega⟩
theorem SqI.below (H : SqI s h rb w acc V cv rows l wr) (hb : Below wr.heap.size wr W') : SqI s h rb w acc V cv rows l W' :=
  ⟨grownBel H.grown hb, H.box.below hb H.box.lt, H.kids.below hb, H.rd.below hb, H.pos, H.few, H.old⟩
/-- the reader went on -/
theorem SqI.went (H : SqI s h rb w acc V cv rows l wr) (hg : wr.grownBy W' (some rb)) (hr : RdAt s h rb l' W') (hl : l'.length ≤ l.length) : SqI s h rb w acc V cv rows l' W' :=
  ⟨H.grown.trans hg, H.box.grown hg (fun e => by injection e with e; have := H.old; omega), H.kids.grownR (by have := H.old; omega) hg, hr, H.pos, by have := H.few; omega, H.old⟩
/-- one kid more -/
theorem SqI.push (H : SqI s h rb w acc V cv rows l wr) {V' : Option Addr} {c' lo : Nat} {e : Ex} {r : List Value} (hlo : w.heap.size + 1 ≤ lo) (hold : ∀ q, (Value.slice V acc.length cv).ownBlock = some q → q < lo) (hE : ExF (fun b => lo ≤ b ∧ b < wr.heap.size) wr.heap.size wr e r)
    (hown : W'.ownsRow (w.heap.size + 1) 27 7 (.slice V' (acc.length + 1) c') (acc.length + 1) (kdF rows acc.length ++ r)) (hg : wr.grownBy W' (Value.slice V acc.length cv).ownBlock)
    (hat : (Value.slice V' (acc.length + 1) c').ownBlock = (Value.slice V acc.length cv).ownBlock ∨ (Value.slice V' (acc.length + 1) c').ownBlock = some wr.heap.size) (hf : acc.length + 1 + l.length ≤ s.size + 1) :
    SqI s h rb w (acc ++ [e]) V' c' (fun i => if i = acc.length then r else rows i) l W' :=
  ⟨grownNew H.grown hg (fun q hq => by have := (H.kids.own.lt q hq).1; omega), H.box.grown hg H.ne.1, H.kids.push hlo hold hE hown hg hat, H.rd.grown hg H.ne.2, by simp, by simp; omega, H.old⟩
end

set_option maxRecDepth 100000 in
set_option maxHeartbeats 4000000 in
theorem seqX_any (s : ByteArray) (hs : s.size ≤ 100000) (h : Bool) (rb f : Nat) (H : DoesR s h rb f) (l : List UInt8) (R : Rs) (w : World) (hr : RdAt s h rb l w) (hj : rdJ h (f + 1) .seq l = some R) :
    Calls Tryd.prog 92 #[.pointer (some ⟨rb, 0, none⟩)] w (PrsQ s h rb w R) := by
  rw [rdJ] at hj
  have HQ : Hid ((∀ x l' cs W', R = .ok x l' → w.grownBy W' (some rb) → ExF (fun b => w.heap.size ≤ b ∧ b < W'.heap.size) W'.heap.size W' x cs → RdAt s h rb l' W' → PrsQ s h rb w R (.returned (.agg cs.toArray)) W') ∧
      (∀ l' W', R = .no l' → w.grownBy W' (some rb) → PrsQ s h rb w R (.panicked [{ v := faultV (posL s l'), recovered := false }]) W')) :=
    ⟨fun x l' cs W' e h1 h2 h3 => by subst e; exact ⟨h1, ⟨cs, rfl, h2⟩, h3⟩, fun l' W' e h1 => by subst e; exact ⟨h1, rfl⟩⟩
  generalize PrsQ s h rb w R = Q at HQ ⊢
  obtain ⟨i0, hi0, hz0, hz1, hz2⟩ := info_parts expr_info
  have hold := hr.blk.lt
  have hll := hr.pos.2.2
  cases hx : rdJ h f .pre l with
  | none => rw [hx] at hj; cases hj
  | some R1 =>
    rw [hx] at hj
    have HP := Lib.hid (H.pre l R1 _ (hr.below ((Below.refl _ _).alloc (Nat.le_refl _) (.cells #[.int .i64 0, .int .u64 0, .int .u64 0, .int .u64 0, .int .u64 0, .string ⟨#[]⟩, .slice none 0 0] 27))) hx)
    have HPR := Lib.hid H.pre
    have HBX : Hid (Blk (w.alloc (.cells #[.int .i64 0, .int .u64 0, .int .u64 0, .int .u64 0, .int .u64 0, .string ⟨#[]⟩, .slice none 0 0] 27)) w.heap.size 27 #[.int .i64 0, .int .u64 0, .int .u64 0, .int .u64 0, .int .u64 0, .string ⟨#[]⟩, .slice none 0 0]) := blk_at rfl
    have HG0 : Hid (w.grownBy (w.alloc (.cells #[.int .i64 0, .int .u64 0, .int .u64 0, .int .u64 0, .int .u64 0, .string ⟨#[]⟩, .slice none 0 0] 27)) (some rb)) := World.grownBy_alloc _ _ _
    have hz : (w.alloc (.cells #[.int .i64 0, .int .u64 0, .int .u64 0, .int .u64 0, .int .u64 0, .string ⟨#[]⟩, .slice none 0 0] 27)).heap.size = w.heap.size + 1 := by simp
    have hend := rd_ends h .pre l
    have HL1 : Hid (∀ x l1, R1 = .ok x l1 → l1.length + 1 ≤ l.length) := by
      obtain ⟨R', h1, h2⟩ := hend
      obtain rfl := h1.uniq ⟨f, hx⟩
      exact h2
    clear hend hx hr H
    go_enter Tryd.func92, Tryd.ntmps92
    go_wp2_with fail
    refine HP.out.mono ?_
    generalize (w.alloc (.cells #[.int .i64 0, .int .u64 0, .int .u64 0, .int .u64 0, .int .u64 0, .string ⟨#[]⟩, .slice none 0 0] 27)) = wa at HP HBX HG0 hz ⊢
    rintro e w1 ⟨hg1, hR1⟩
    cases R1 with
    | no l1 =>
      simp only at hR1
      subst hR1
      injection hj with hj
      go_wp2
      exact ⟨rfl, HQ.out.2 _ _ hj.symm (HG0.out.trans hg1)⟩
    | ok x l1 =>
      obtain ⟨⟨cs, rfl, hE⟩, hr1⟩ := hR1
      obtain ⟨k1, a1, b1, c1, d1, t1, A1, n1, cp1, rfl⟩ := Ex.parts _ hE.is
      have hj1 : rdJ h f (.seqL [x]) l1 = some R := hj
      have hl1 := HL1.out _ _ rfl
      rw [hz] at hE
      have hsz1 := hg1.size
      rw [hz] at hsz1
      have hK1 := KidsX.one (base := w.heap.size + 1) hE (Nat.le_refl _) hsz1
      have hI1 : SqI s h rb w [x] (some ⟨w1.heap.size, 0, none⟩) 1 (fun _ => [.int .i64 k1, .int .u64 a1, .int .u64 b1, .int .u64 c1, .int .u64 d1, .string t1, .slice A1 n1 cp1]) l1 (w1.alloc (.cells #[.int .i64 k1, .int .u64 a1, .int .u64 b1, .int .u64 c1, .int .u64 d1, .string t1, .slice A1 n1 cp1] 27)) :=
        ⟨(HG0.out.trans hg1).trans (World.grownBy_alloc _ _ _), (HBX.out.grown hg1 (fun e => by injection e with e; omega)).alloc _, hK1, hr1.below ((Below.refl _ _).alloc (Nat.le_refl _) _), by simp, by simp; omega, hold⟩
      have HI1 := Lib.hid hI1
      have HJ1 := Lib.hid hj1
      clear hI1 hj1 hj hK1 hE hr1 hg1 HP HBX HG0 hz hsz1 HL1
      go_wp2_with fail
      go_loopg [3] f (fun n s3 wr => ∃ (acc : List Ex) (V : Option Addr) (cv : Nat) (rows : Nat → List Value) (l' : List UInt8), s3 = .slice V acc.length cv ∧ Hid (SqI s h rb w acc V cv rows l' wr) ∧ Hid (n ≤ f ∧ rdJ h n (.seqL acc) l' = some R))
      case atStart => exact ⟨[x], _, 1, _, l1, rfl, HI1, Nat.le_refl _, HJ1.out⟩
      case round =>
        clear HI1 HJ1
        obtain ⟨acc, V, cv, rows, l', rfl, HI, HJ⟩ := hrel
        have hI := HI.out
        obtain ⟨hn, hjn⟩ := HJ.out
        obtain ⟨n', rfl⟩ : ∃ n', gk = n' + 1 := by
          cases gk with
          | zero => cases hjn
          | succ n => exact ⟨n, rfl⟩
        rw [rdJ] at hjn
        have HBG := Lib.hid (begins_any s hs h rb l' wr hI.rd)
        by_cases hb : begL h l' = true
        · rw [if_pos hb] at hjn
          rw [hb] at HBG
          have HL2 : Hid (∀ R2, rdJ h n' .pre l' = some R2 → ∀ x l2, R2 = .ok x l2 → l2.length + 1 ≤ l'.length) := fun R2 h2 => by
            obtain ⟨R', h3, h4⟩ := rd_ends h .pre l'
            obtain rfl := h3.uniq ⟨n', h2⟩
            exact h4
          cases hx2 : rdJ h n' .pre l' with
          | none => rw [hx2] at hjn; cases hjn
          | some R2 =>
            rw [hx2] at hjn
            have HX3 := Lib.hid (rdJ_le (show n' ≤ f by omega) hx2)
            have HL3 := Lib.hid (HL2.out R2 hx2)
            have HJN := Lib.hid hjn
            clear hx2 hjn HL2 HJ hb
            go_wp2_with fail
            refine HBG.out.mono ?_
            rintro e w2 ⟨rfl, hb2⟩
            have HI2 := Lib.hid (hI.below hb2)
            clear hI HI hb2 HBG
            go_wp2_with fail
            refine (HPR.out l' R2 w2 HI2.out.rd HX3.out).mono ?_
            rintro e w3 ⟨hg3, hR3⟩
            cases R2 with
            | no l2 =>
              simp only at hR3
              subst hR3
              have hRe : Rs.no l2 = R := Option.some.inj HJN.out
              have HRE := Lib.hid hRe
              clear hRe
              go_wp2
              exact ⟨rfl, HQ.out.2 _ _ HRE.out.symm (HI2.out.grown.trans hg3)⟩
            | ok x2 l2 =>
              obtain ⟨⟨cs, rfl, hE⟩, hr3⟩ := hR3
              obtain ⟨k2, a2, b2, c2, d2, t2, A2, n2, cp2, rfl⟩ := Ex.parts _ hE.is
              have hone := ex_one' hE.is
              have hl2 := HL3.out _ _ rfl
              have hfew := HI2.out.few
              have hI3 := HI2.out.went hg3 hr3 (by omega)
              have hlo : w.heap.size + 1 ≤ w2.heap.size := HI2.out.box.lt
              have hold2 : ∀ q, (Value.slice V acc.length cv).ownBlock = some q → q < w2.heap.size := HI2.out.kids.old
              have hsz3 := hg3.size
              have hI4 := hI3.below ((Below.refl _ _).alloc (Nat.le_refl _) (.cells #[.int .i64 k2, .int .u64 a2, .int .u64 b2, .int .u64 c2, .int .u64 d2, .string t2, .slice A2 n2 cp2] 27))
              have hE4 := hE.allocR (.cells #[.int .i64 k2, .int .u64 a2, .int .u64 b2, .int .u64 c2, .int .u64 d2, .string t2, .slice A2 n2 cp2] 27)
              have hkb : Blk (w3.alloc (.cells #[.int .i64 k2, .int .u64 a2, .int .u64 b2, .int .u64 c2, .int .u64 d2, .string t2, .slice A2 n2 cp2] 27)) w3.heap.size 27 #[.int .i64 k2, .int .u64 a2, .int .u64 b2, .int .u64 c2, .int .u64 d2, .string t2, .slice A2 n2 cp2] := blk_at rfl
              have hb4 : w.heap.size + 1 ≤ (w3.alloc (.cells #[.int .i64 k2, .int .u64 a2, .int .u64 b2, .int .u64 c2, .int .u64 d2, .string t2, .slice A2 n2 cp2] 27)).heap.size := by simp; omega
              have hal : acc.length ≤ 100000 := by omega
              have hl22 : acc.length + 1 + l2.length ≤ s.size + 1 := by omega
              clear hI3 hg3 hE hr3 hsz3 HI2 hfew hl2
              go_wp2_with (at_builtin; refine wpList_append_lies _ rfl _ _ _ rfl (w.heap.size + 1) 27 i0 _ 7 80 Tryd.underlying25 hi0 hz0 hz1 hz2 rfl (by omega) (.slice V acc.length cv) acc.length (kdF rows acc.length) rfl hI4.kids.own ⟨w3.heap.size, 0, none⟩ 1 1 [.int .i64 k2, .int .u64 a2, .int .u64 b2, .int .u64 c2, .int .u64 d2, .string t2, .slice A2 n2 cp2] rfl rfl (fun i u hu => by rw [cell_add]; exact (hkb.cell i).trans (by rw [List.getElem?_toArray]; exact hu)) hone (by omega) (by unfold maxLen; omega) (by omega) hb4 (w3.heap.size + 1) (by simp) ?_; intro g4 cap4 w4 hown4 hgrow4 hat4 hlt4)
              have hI5 := hI4.push hlo hold2 hE4 hown4 hgrow4 (by
                rcases hat4 with h | h
                · exact .inl h.symm
                · right
                  show some g4 = _
                  rw [h]
                  simp) hl22
              have HI5 := Lib.hid hI5
              clear hI5 hI4 hE4 hkb hown4 hgrow4 hat4 hlt4 hb4
              go_roundg n'
              case rel => exact ⟨acc ++ [x2], _, cap4, _, l2, by rw [List.length_append]; rfl, HI5, by omega, HJN.out⟩
              case measure => omega
        · rw [if_neg hb] at hjn
          have hb' : begL h l' = false := by simpa using hb
          rw [hb'] at HBG
          have HRE : Hid (R = .ok (oneOr 5 acc) l') := (Option.some.inj hjn).symm
          clear hjn hb hb' HJ
          go_wp2_with fail
          refine HBG.out.mono ?_
          rintro e w2 ⟨rfl, hb2⟩
          have HI2 := Lib.hid (hI.below hb2)
          clear hI HI hb2 HBG
          by_cases h1 : acc.length = 1
          · obtain ⟨x, rfl⟩ : ∃ x, acc = [x] := by
              match acc, h1 with
              | [x], _ => exact ⟨x, rfl⟩
            clear h1
            obtain ⟨g, rfl, hg1, hg2⟩ := HI2.out.kids.at (by simp)
            obtain ⟨hE, hcell⟩ := HI2.out.kids.one_at
            obtain ⟨k2, a2, b2, c2, d2, t2, A2, n2, cp2, hrows⟩ := Ex.parts _ hE.is
            rw [hrows] at hE hcell
            have z0 := hcell 0 _ rfl
            have z1 := hcell 1 _ rfl
            have z2 := hcell 2 _ rfl
            have z3 := hcell 3 _ rfl
            have z4 := hcell 4 _ rfl
            have z5 := hcell 5 _ rfl
            have z6 := hcell 6 _ rfl
            have hbx := HI2.out.box
            have hno := HI2.out.old
            have HE := Lib.hid hE
            clear hcell hrows hE
            have hob := (hbx).lt
            have yz0 : w2.cell? ⟨w.heap.size, 0, none⟩ = some (.int .i64 0) := hbx.cell 0; have yz1 : w2.cell? ⟨w.heap.size, 1, none⟩ = some (.int .u64 0) := hbx.cell 1; have yz2 : w2.cell? ⟨w.heap.size, 2, none⟩ = some (.int .u64 0) := hbx.cell 2; have yz3 : w2.cell? ⟨w.heap.size, 3, none⟩ = some (.int .u64 0) := hbx.cell 3; have yz4 : w2.cell? ⟨w.heap.size, 4, none⟩ = some (.int .u64 0) := hbx.cell 4; have yz5 : w2.cell? ⟨w.heap.size, 5, none⟩ = some (.string ⟨#[]⟩) := hbx.cell 5; have yz6 : w2.cell? ⟨w.heap.size, 6, none⟩ = some (.slice none 0 0) := hbx.cell 6; have yf0 := hbx.frozen 0; have yf1 := hbx.frozen 1; have yf2 := hbx.frozen 2; have yf3 := hbx.frozen 3; have yf4 := hbx.frozen 4; have yf5 := hbx.frozen 5; have yf6 := hbx.frozen 6; have ye0 : (w2.setCell ⟨w.heap.size, 0, none⟩ (.int .i64 k2)).cell? ⟨w.heap.size, 0, none⟩ = some (.int .i64 k2) := (hbx.set_ 0 _).cell 0; have ye1 : ((w2.setCell ⟨w.heap.size, 0, none⟩ (.int .i64 k2)).setCell ⟨w.heap.size, 1, none⟩ (.int .u64 a2)).cell? ⟨w.heap.size, 1, none⟩ = some (.int .u64 a2) := ((hbx.set_ 0 _).set_ 1 _).cell 1; have ye2 : (((w2.setCell ⟨w.heap.size, 0, none⟩ (.int .i64 k2)).setCell ⟨w.heap.size, 1, none⟩ (.int .u64 a2)).setCell ⟨w.heap.size, 2, none⟩ (.int .u64 b2)).cell? ⟨w.heap.size, 2, none⟩ = some (.int .u64 b2) := (((hbx.set_ 0 _).set_ 1 _).set_ 2 _).cell 2; have ye3 : ((((w2.setCell ⟨w.heap.size, 0, none⟩ (.int .i64 k2)).setCell ⟨w.heap.size, 1, none⟩ (.int .u64 a2)).setCell ⟨w.heap.size, 2, none⟩ (.int .u64 b2)).setCell ⟨w.heap.size, 3, none⟩ (.int .u64 c2)).cell? ⟨w.heap.size, 3, none⟩ = some (.int .u64 c2) := ((((hbx.set_ 0 _).set_ 1 _).set_ 2 _).set_ 3 _).cell 3; have ye4 : (((((w2.setCell ⟨w.heap.size, 0, none⟩ (.int .i64 k2)).setCell ⟨w.heap.size, 1, none⟩ (.int .u64 a2)).setCell ⟨w.heap.size, 2, none⟩ (.int .u64 b2)).setCell ⟨w.heap.size, 3, none⟩ (.int .u64 c2)).setCell ⟨w.heap.size, 4, none⟩ (.int .u64 d2)).cell? ⟨w.heap.size, 4, none⟩ = some (.int .u64 d2) := (((((hbx.set_ 0 _).set_ 1 _).set_ 2 _).set_ 3 _).set_ 4 _).cell 4; have ye5 : ((((((w2.setCell ⟨w.heap.size, 0, none⟩ (.int .i64 k2)).setCell ⟨w.heap.size, 1, none⟩ (.int .u64 a2)).setCell ⟨w.heap.size, 2, none⟩ (.int .u64 b2)).setCell ⟨w.heap.size, 3, none⟩ (.int .u64 c2)).setCell ⟨w.heap.size, 4, none⟩ (.int .u64 d2)).setCell ⟨w.heap.size, 5, none⟩ (.string t2)).cell? ⟨w.heap.size, 5, none⟩ = some (.string t2) := ((((((hbx.set_ 0 _).set_ 1 _).set_ 2 _).set_ 3 _).set_ 4 _).set_ 5 _).cell 5; have ye6 : (((((((w2.setCell ⟨w.heap.size, 0, none⟩ (.int .i64 k2)).setCell ⟨w.heap.size, 1, none⟩ (.int .u64 a2)).setCell ⟨w.heap.size, 2, none⟩ (.int .u64 b2)).setCell ⟨w.heap.size, 3, none⟩ (.int .u64 c2)).setCell ⟨w.heap.size, 4, none⟩ (.int .u64 d2)).setCell ⟨w.heap.size, 5, none⟩ (.string t2)).setCell ⟨w.heap.size, 6, none⟩ (.slice A2 n2 cp2)).cell? ⟨w.heap.size, 6, none⟩ = some (.slice A2 n2 cp2) := (((((((hbx.set_ 0 _).set_ 1 _).set_ 2 _).set_ 3 _).set_ 4 _).set_ 5 _).set_ 6 _).cell 6
            go_wp2
            exact bodyPost_ret (v := .agg #[.int .i64 k2, .int .u64 a2, .int .u64 b2, .int .u64 c2, .int .u64 d2, .string t2, .slice A2 n2 cp2]) (by simp [results, Tryd.results92, go_sem, ye0, ye1, ye2, ye3, ye4, ye5, ye6]) rfl (HQ.out.1 _ _ [.int .i64 k2, .int .u64 a2, .int .u64 b2, .int .u64 c2, .int .u64 d2, .string t2, .slice A2 n2 cp2] _ HRE.out (grown_set7 HI2.out.grown (Nat.le_refl _) _ _ _ _ _ _ _) ((HE.out).res7 (by omega) (by omega) _ _ _ _ _ _ _) ((HI2.out.rd).set7 (by omega) _ _ _ _ _ _ _))
          · have h1' : ((acc.length : Int) == 1) = false := by rw [beq_eq_false_iff_ne]; omega
            have HE := Lib.hid (HI2.out.kids.node 5 0 0 0 0 ⟨#[]⟩ (by decide))
            have hbx := HI2.out.box
            have hno := HI2.out.old
            have HRE2 : Hid (R = .ok (.mk 5 0 0 0 0 ⟨#[]⟩ acc) l') := by
              show _ = _
              rw [HRE.out, oneOr_ne h1]
            clear h1
            have hob := (hbx).lt
            have yz0 : w2.cell? ⟨w.heap.size, 0, none⟩ = some (.int .i64 0) := hbx.cell 0; have yz1 : w2.cell? ⟨w.heap.size, 1, none⟩ = some (.int .u64 0) := hbx.cell 1; have yz2 : w2.cell? ⟨w.heap.size, 2, none⟩ = some (.int .u64 0) := hbx.cell 2; have yz3 : w2.cell? ⟨w.heap.size, 3, none⟩ = some (.int .u64 0) := hbx.cell 3; have yz4 : w2.cell? ⟨w.heap.size, 4, none⟩ = some (.int .u64 0) := hbx.cell 4; have yz5 : w2.cell? ⟨w.heap.size, 5, none⟩ = some (.string ⟨#[]⟩) := hbx.cell 5; have yz6 : w2.cell? ⟨w.heap.size, 6, none⟩ = some (.slice none 0 0) := hbx.cell 6; have yf0 := hbx.frozen 0; have yf1 := hbx.frozen 1; have yf2 := hbx.frozen 2; have yf3 := hbx.frozen 3; have yf4 := hbx.frozen 4; have yf5 := hbx.frozen 5; have yf6 := hbx.frozen 6; have ye0 : (w2.setCell ⟨w.heap.size, 0, none⟩ (.int .i64 5)).cell? ⟨w.heap.size, 0, none⟩ = some (.int .i64 5) := (hbx.set_ 0 _).cell 0; have ye1 : ((w2.setCell ⟨w.heap.size, 0, none⟩ (.int .i64 5)).setCell ⟨w.heap.size, 1, none⟩ (.int .u64 0)).cell? ⟨w.heap.size, 1, none⟩ = some (.int .u64 0) := ((hbx.set_ 0 _).set_ 1 _).cell 1; have ye2 : (((w2.setCell ⟨w.heap.size, 0, none⟩ (.int .i64 5)).setCell ⟨w.heap.size, 1, none⟩ (.int .u64 0)).setCell ⟨w.heap.size, 2, none⟩ (.int .u64 0)).cell? ⟨w.heap.size, 2, none⟩ = some (.int .u64 0) := (((hbx.set_ 0 _).set_ 1 _).set_ 2 _).cell 2; have ye3 : ((((w2.setCell ⟨w.heap.size, 0, none⟩ (.int .i64 5)).setCell ⟨w.heap.size, 1, none⟩ (.int .u64 0)).setCell ⟨w.heap.size, 2, none⟩ (.int .u64 0)).setCell ⟨w.heap.size, 3, none⟩ (.int .u64 0)).cell? ⟨w.heap.size, 3, none⟩ = some (.int .u64 0) := ((((hbx.set_ 0 _).set_ 1 _).set_ 2 _).set_ 3 _).cell 3; have ye4 : (((((w2.setCell ⟨w.heap.size, 0, none⟩ (.int .i64 5)).setCell ⟨w.heap.size, 1, none⟩ (.int .u64 0)).setCell ⟨w.heap.size, 2, none⟩ (.int .u64 0)).setCell ⟨w.heap.size, 3, none⟩ (.int .u64 0)).setCell ⟨w.heap.size, 4, none⟩ (.int .u64 0)).cell? ⟨w.heap.size, 4, none⟩ = some (.int .u64 0) := (((((hbx.set_ 0 _).set_ 1 _).set_ 2 _).set_ 3 _).set_ 4 _).cell 4; have ye5 : ((((((w2.setCell ⟨w.heap.size, 0, none⟩ (.int .i64 5)).setCell ⟨w.heap.size, 1, none⟩ (.int .u64 0)).setCell ⟨w.heap.size, 2, none⟩ (.int .u64 0)).setCell ⟨w.heap.size, 3, none⟩ (.int .u64 0)).setCell ⟨w.heap.size, 4, none⟩ (.int .u64 0)).setCell ⟨w.heap.size, 5, none⟩ (.string ⟨#[]⟩)).cell? ⟨w.heap.size, 5, none⟩ = some (.string ⟨#[]⟩) := ((((((hbx.set_ 0 _).set_ 1 _).set_ 2 _).set_ 3 _).set_ 4 _).set_ 5 _).cell 5; have ye6 : (((((((w2.setCell ⟨w.heap.size, 0, none⟩ (.int .i64 5)).setCell ⟨w.heap.size, 1, none⟩ (.int .u64 0)).setCell ⟨w.heap.size, 2, none⟩ (.int .u64 0)).setCell ⟨w.heap.size, 3, none⟩ (.int .u64 0)).setCell ⟨w.heap.size, 4, none⟩ (.int .u64 0)).setCell ⟨w.heap.size, 5, none⟩ (.string ⟨#[]⟩)).setCell ⟨w.heap.size, 6, none⟩ (.slice V acc.length cv)).cell? ⟨w.heap.size, 6, none⟩ = some (.slice V acc.length cv) := (((((((hbx.set_ 0 _).set_ 1 _).set_ 2 _).set_ 3 _).set_ 4 _).set_ 5 _).set_ 6 _).cell 6
            go_wp2
            exact bodyPost_ret (v := .agg #[.int .i64 5, .int .u64 0, .int .u64 0, .int .u64 0, .int .u64 0, .string ⟨#[]⟩, .slice V acc.length cv]) (by simp [results, Tryd.results92, go_sem, ye0, ye1, ye2, ye3, ye4, ye5, ye6]) rfl (HQ.out.1 _ _ [.int .i64 5, .int .u64 0, .int .u64 0, .int .u64 0, .int .u64 0, .string ⟨#[]⟩, .slice V acc.length cv] _ HRE2.out (grown_set7 HI2.out.grown (Nat.le_refl _) _ _ _ _ _ _ _) ((HE.out).res7 (by omega) (by omega) _ _ _ _ _ _ _) ((HI2.out.rd).set7 (by omega) _ _ _ _ _ _ _))
end Go.Proofs.YtndhbdbfjkmloaaDoor
