/- list.List where it lists: the walk. -/
import Derived.Test.YtkmcnekjimobhaaLsE
import Derived.Test.YtkmcnekjimobhaaRfS
namespace Go.Proofs.Ytkmcnekjimobhaa
open Go.RowKit Go.Shelf

attribute [local go_sem] Oper.semAt_some

theorem str_info : (Try.prog.info? 9).map (fun i => (i.zero, i.size, i.bytes)) = some (some (.string ByteArray.empty), 1, 16) := by kernel_rfl

theorem callsIn_round {F : Fence} {n l : Nat} {P : Program} {f : FuncId} {args : Array Value} {w : World} {R : Ending → World → Prop} (h : CallsIn F n P f args w R) : CallsIn (F.inRound l) n P f args w R := h
theorem cell_put {W : World} {D k i : Nat} {o : Obj} {v : Option Value} (hne : k ≠ D) (h : W.cell? ⟨k, i, none⟩ = v) : (W.putObj D o).cell? ⟨k, i, none⟩ = v := (World.cell?_of_block (World.putObj_heap_other hne)).trans h
theorem filter_snoc {acc : ByteArray → Bool} {pre : List ByteArray} {x : ByteArray} (h : acc x = true) : (pre ++ [x]).filter acc = pre.filter acc ++ [x] := by simp [h]
theorem filter_skip {acc : ByteArray → Bool} {pre : List ByteArray} {x : ByteArray} (h : acc x = false) : (pre ++ [x]).filter acc = pre.filter acc := by simp [h]

set_option maxRecDepth 100000 in
set_option maxHeartbeats 8000000 in
theorem list_go {g : List Rl} {A : Option Addr} {cp : Nat} {row : Nat → List Value} {w : World} (h : GrIs w w.heap.size g A cp row) (hwf : ∀ r ∈ g, WfE r.2) (a : ByteArray) (n : Int) (ha : a.size ≤ 140737488351232) (hn : I64 n) (c : Cur) (b : Int) (hl : LookOk g a n) (hok : 0 ≤ b ∧ b ≤ 1048576 ∧ CurOk a.data.toList n.toNat c) (ho1 : c.2 = false) :
    Calls Try.prog 74 #[.agg #[.slice A g.length cp], .string a, .int .i64 n, curV c, .int .i64 b] w (ListQ g a n c b w) := by
  have hro : Fence.wide.round = none := rfl
  have hlk := fun W (hW : Below w.heap.size w W) => llook_any (h.grow hW) a n ha hn
  have HLK := Lib.hid hlk
  obtain ⟨i0, hi, hz0, hz1, hz2⟩ := info_parts str_info
  have hac := fun W (hW : Below w.heap.size w W) (t : ByteArray) => acc_any (h.grow hW) hwf t
  have HAC := Lib.hid hac
  obtain ⟨s, o⟩ := c
  simp only at ho1
  subst ho1
  have HL := Lib.hid hl
  have hok' := hok
  obtain ⟨b0, b1, ho, hs, hz⟩ := hok'
  have hs60 : s.size ≤ 140737488351232 := by have h6 := ho.2.1; have h7 := size_list s; simp only at h6; omega
  have hov := fun W => over_any a s W ha hs60
  have HOV := Lib.hid hov
  obtain ⟨k, rfl, hk6, hk5⟩ := hl.2.2
  obtain ⟨b, rfl⟩ := Int.eq_ofNat_of_zero_le b0
  have HQ : Hid (∀ e w', Below w.heap.size w w' → (∃ V cp l c', listL (accG g) a.data.toList k (s, false) b = (l, c') ∧ e = .returned (.tuple #[.slice V l.length cp, .agg #[.string c'.1, .bool c'.2], .int .i64 0]) ∧
      w'.ownsRow w.heap.size 9 1 (.slice V l.length cp) l.length (l.map Value.string)) → ListQ g a k (s, false) b w e w') := fun e w' hb h => ⟨hb, .inr (.inr ⟨hl, hok, h⟩)⟩
  have HO := Lib.hid ho
  have hsk : s.size ≤ k := hs
  have b0' : ((b : Int) < 0) = False := by simp
  have b1' : (1048576 < (b : Int)) = False := by simp; omega
  have hs' : ((k : Int) < (s.size : Int)) = False := by simp; omega
  have hst := fun (B : Nat) (W : World) => texts_stops (5 - 1) a s k hk6 ha ho hsk B W
  have HST := Lib.hid hst
  obtain ⟨T, hT⟩ : ∃ T, textsL a.data.toList s.data.toList k = T := ⟨_, rfl⟩
  have hT5 : T.length ≤ 5000 := by
    rw [← hT, textsL_len]
    have h7 : a.data.toList.length = a.size := size_list a
    simp only [h7]
    try omega
  have HLL : Hid (∀ l c', (if b < T.length then ((T.take b).filter (accG g), ((textOf a.data.toList (rank a.data.toList s.data.toList + b), false) : Cur)) else (T.filter (accG g), (⟨#[]⟩, true))) = (l, c') → listL (accG g) a.data.toList k (s, false) b = (l, c')) := fun l c' h => by
    unfold listL
    rw [if_neg (by simp)]
    simp only [hT]
    exact h
  have HTX : Hid (∀ j x, T[j]? = some x → x = textOf a.data.toList (rank a.data.toList s.data.toList + j)) := fun j x hx => by
    have h1 := getElem?_lt hx
    rw [← hT, textsL_len] at h1
    rw [← hT, textsL_get (by omega)] at hx
    injection hx with hx
    exact hx.symm
  rw [hT] at HST
  clear hlk h hwf hl hov hs hz ho b0 hok hac hst hT hk5
  generalize ListQ g a k (s, false) b w = Q at HQ ⊢
  generalize hacc : accG g = acc at HLL HAC HQ
  clear hacc
  unfold curV
  simp only
  refine (callsIn_wide (n := 5)).1 ?_
  refine callsIn_of_wp_marks Try.func74 rfl trivial ?_ hro
  simp only [Try.ntmps74, List.size_toArray, List.length_cons, List.length_nil, Nat.reduceAdd, Nat.reduceSub, Array.replicate_succ, Array.replicate_zero, List.push_toArray, List.append_toArray, List.nil_append, List.cons_append]
  gi_wp2_with (first
    | (refine ⟨trivial, ?_⟩; gi_at_call 70; refine (callsIn_wide.2 (HLK.out _ (by repeat (first | exact Below.refl _ _ | assumption | refine Below.drew ?_ | refine below_drewN ?_ _ | refine Below.alloc ?_ (by first | omega | (simp; omega) | simp) _ | refine Below.setCell ?_ (by first | omega | (simp; omega) | simp) _)))).mono ?_; rintro e w1 ⟨⟨x, rfl, hx, h11⟩, hb1⟩; have hw1 : Below w.heap.size w w1 := (((((((Below.refl _ w).alloc (Nat.le_refl _) _).alloc (by first | omega | (simp; omega) | simp) _).alloc (by first | omega | (simp; omega) | simp) _).alloc (by first | omega | (simp; omega) | simp) _).alloc (by first | omega | (simp; omega) | simp) _).alloc (by first | omega | (simp; omega) | simp) _).trans (hb1.mono (by first | omega | (simp; omega) | simp)); have g0 : Blk w1 w.heap.size 24 #[.slice A g.length cp] := (((((((blk_at rfl).alloc _).alloc _).alloc _).alloc _).alloc _)).below hb1 (by first | omega | (simp; omega) | simp); have q0 : Blk w1 (w.heap.size + 1) 148 #[.string s, .bool false] := ((((((blk_at (by simp)).alloc _).alloc _).alloc _).alloc _)).below hb1 (by first | omega | (simp; omega) | simp); have n0 : Blk w1 (w.heap.size + 1 + 1) 3 #[.int .i64 b] := (((((blk_at (by simp)).alloc _).alloc _).alloc _)).below hb1 (by first | omega | (simp; omega) | simp); have r0 : Blk w1 (w.heap.size + 1 + 1 + 1) 79 #[.slice none 0 0] := (((blk_at (by simp)).alloc _).alloc _).below hb1 (by first | omega | (simp; omega) | simp); have r1 : Blk w1 (w.heap.size + 1 + 1 + 1 + 1) 148 #[.string ⟨#[]⟩, .bool false] := ((blk_at (by simp)).alloc _).below hb1 (by first | omega | (simp; omega) | simp); have r2 : Blk w1 (w.heap.size + 1 + 1 + 1 + 1 + 1) 28 #[.int .i64 0] := (blk_at (by simp)).below hb1 (by first | omega | (simp; omega) | simp); have hz1 := hw1.size; have lq0 := q0.lt; have ln0 := n0.lt; have lr2 := r2.lt; have lr1 := r1.lt; have lr0 := r0.lt; have lg0 := g0.lt; have k0 := r0.cell 0; have k1 := r1.cell 0; have k2 := r1.cell 1; have k3 := r2.cell 0; have f0 := r0.frozen 0; have f1 := r1.frozen 0; have f2 := r1.frozen 1; have f3 := r2.frozen 0; have p0 : w1.cell? ⟨w.heap.size + 1, 0, none⟩ = some (.string s) := q0.cell 0; have p1 : w1.cell? ⟨w.heap.size + 1, 1, none⟩ = some (.bool false) := q0.cell 1; have p2 : w1.cell? ⟨w.heap.size + 1 + 1, 0, none⟩ = some (.int .i64 b) := n0.cell 0; have p3 : w1.cell? ⟨w.heap.size, 0, none⟩ = some (.slice A g.length cp) := g0.cell 0; simp at k0 k1 k2 k3; clear hb1; obtain rfl := hx.2 HL.out; clear hx h11)
    | (refine ⟨trivial, ?_⟩; gi_at_call 107; refine (callsIn_wide.2 (HOV.out _)).mono ?_; rintro e w2 ⟨⟨y, rfl, hy⟩, d, rfl⟩; obtain rfl := hy.2 HO.out; replace g0 := g0.drewN d; replace q0 := q0.drewN d; replace n0 := n0.drewN d; replace r0 := r0.drewN d; replace r1 := r1.drewN d; replace r2 := r2.drewN d; replace hw1 := below_drewN hw1 d; clear hy p0 p1 p2 p3 k0 k1 k2 k3 f0 f1 f2 f3 lq0 ln0 lr2 lr1 lr0 lg0 hz1; generalize w1.drewN d = w2 at *; have hz2' := hw1.size; have e0 : w2.cell? ⟨w.heap.size + 1, 0, none⟩ = some (.string s) := q0.cell 0; have e1 : w2.cell? ⟨w.heap.size + 1, 1, none⟩ = some (.bool false) := q0.cell 1; have p0 : (w2.alloc (.cells #[.slice none 0 0] 79)).cell? ⟨w.heap.size + 1, 0, none⟩ = some (.string s) := (q0.alloc _).cell 0)
    | (refine ⟨trivial, ?_⟩; gi_at_call 71; refine (textsf_in _ _ _ _ _).mono ?_; rintro e w3 ⟨rfl, rfl⟩))
  clear p0 e0 e1
  have hbo : Blk (w2.alloc (.cells #[.slice none 0 0] 79)) w2.heap.size 79 #[.slice none 0 0] := blk_at rfl
  obtain ⟨wL, hwL⟩ : ∃ wL, (((w2.alloc (.cells #[.slice none 0 0] 79)).alloc (.cells #[.string a] 9)).alloc (.cells #[.string s] 9)).alloc (.cells #[.int .i64 k] 3) = wL := ⟨_, rfl⟩
  have hsL : w2.heap.size + 4 = wL.heap.size := by rw [← hwL]; simp
  have t1 : Blk wL (w2.heap.size + 1) 9 #[.string a] := by rw [← hwL]; exact ((blk_at (by simp)).alloc _).alloc _
  have t2 : Blk wL (w2.heap.size + 1 + 1) 9 #[.string s] := by rw [← hwL]; exact (blk_at (by simp)).alloc _
  have t3 : Blk wL (w2.heap.size + 1 + 1 + 1) 3 #[.int .i64 k] := by rw [← hwL]; exact blk_at (by simp)
  have hl2 : w.heap.size + 6 ≤ w2.heap.size := by have := r2.lt; omega
  have hLI : LI acc w w2.heap.size wL.heap.size (.slice A g.length cp) b [] wL := by
    subst hwL
    refine ⟨Nat.zero_le _, ⟨none, 0, ((hbo.alloc _).alloc _).alloc _, World.ownsRow_nil _ _ _ _⟩, (((g0.alloc _).alloc _).alloc _).alloc _, (((n0.alloc _).alloc _).alloc _).alloc _, (((r0.alloc _).alloc _).alloc _).alloc _, (((r1.alloc _).alloc _).alloc _).alloc _, (((r2.alloc _).alloc _).alloc _).alloc _, (by repeat (first | exact Below.refl _ _ | assumption | refine Below.drew ?_ | refine below_drewN ?_ _ | refine Below.alloc ?_ (by first | omega | (simp; omega) | simp) _ | refine Below.setCell ?_ (by first | omega | (simp; omega) | simp) _)), Nat.le_refl _⟩
  have HR := Lib.hid hLI
  have hstop := HST.out (w2.heap.size + 1) wL t1 t2 t3
  clear t1 t2 t3 hbo g0 n0 r0 r1 r2 q0 hLI
  try simp only [World.size_alloc]
  try rw [hwL]
  refine wpIn_rangeFunc_one (val := Value.string) hro (by omega) (gf := 100) (lb := #[.pointer (some ⟨w2.heap.size + 1 + 1, 0, none⟩), .pointer (some ⟨w2.heap.size + 1 + 1 + 1, 0, none⟩), .pointer (some ⟨w2.heap.size + 1, 0, none⟩)]) (by rfl) trivial (enters_of Try.func100 (by kernel_rfl) rfl)
    hstop (fun W => KeepT.refl _ W) KeepT.trans (fun W l o o' h1 h2 h3 h4 => KeepT.put (w := wL) (by omega) W l o o' h1 h2 h3 h4) (Below.refl _ _)
    (LI acc w w2.heap.size wL.heap.size (.slice A g.length cp) b) (fun c pre W => c = .ret ∧ LX acc w wL.heap.size b pre W) (LI.own (by omega)) (fun c => LX.own (by omega) c) HR.out 15 ?assign ?body ?done ?stop
  case assign =>
    intro l x W K hK
    gi_wp2
    exact hK
  case body =>
    intro l pre x W hlL hrec hI hlt
    simp only [List.setIfInBounds_toArray, List.set_cons_succ, List.set_cons_zero]
    obtain ⟨V, cq, hout, hrow⟩ := hI.out
    have hWs := hI.size
    have hwW := hI.bel
    have hle := hI.le
    have o0 : W.cell? ⟨w2.heap.size, 0, none⟩ = some (.slice V (pre.filter acc).length cq) := hout.cell 0
    have of0 := hout.frozen 0
    have hg0 : W.cell? ⟨w.heap.size, 0, none⟩ = some (.slice A g.length cp) := hI.gr.cell 0
    have d0 : W.cell? ⟨w.heap.size + 1 + 1, 0, none⟩ = some (.int .i64 ((b - pre.length : Nat) : Int)) := hI.bud.cell 0
    have df0 := hI.bud.frozen 0
    by_cases hb0 : pre.length = b
    · have hz : ((b - pre.length : Nat) : Int) = 0 := by omega
      rw [hz] at d0
      have k0 : W.cell? ⟨w.heap.size + 1 + 1 + 1, 0, none⟩ = some (.slice none 0 0) := hI.r0.cell 0
      have k1 : W.cell? ⟨w.heap.size + 1 + 1 + 1 + 1, 0, none⟩ = some (.string ⟨#[]⟩) := hI.r1.cell 0
      have k2 : W.cell? ⟨w.heap.size + 1 + 1 + 1 + 1, 1, none⟩ = some (.bool false) := hI.r1.cell 1
      have k3 : W.cell? ⟨w.heap.size + 1 + 1 + 1 + 1 + 1, 0, none⟩ = some (.int .i64 0) := hI.r2.cell 0
      have f0 := hI.r0.frozen 0
      have f1 := hI.r1.frozen 0
      have f2 := hI.r1.frozen 1
      have f3 := hI.r2.frozen 0
      have HI := Lib.hid hI
      clear hI
      gi_wp2
      have hI := HI.out
      have n1 : ∀ i, w2.heap.size + 1 ≤ i → i < w2.heap.size + 4 → i ≠ w.heap.size + 1 + 1 + 1 := fun i h1 h2 => by omega
      have hkf : KeepsFrom wL.heap.size W ((((W.setCell ⟨w.heap.size + 1 + 1 + 1, 0, none⟩ (.slice V (pre.filter acc).length cq)).setCell ⟨w.heap.size + 1 + 1 + 1 + 1, 0, none⟩ (.string x)).setCell ⟨w.heap.size + 1 + 1 + 1 + 1, 1, none⟩ (.bool false)).setCell ⟨w.heap.size + 1 + 1 + 1 + 1 + 1, 0, none⟩ (.int .i64 0)) :=
        ((((KeepL.set (bt := w2.heap.size + 1) W (by omega) (by omega) _ _).trans (KeepL.set _ (by omega) (by omega) _ _)).trans (KeepL.set _ (by omega) (by omega) _ _)).trans (KeepL.set _ (by omega) (by omega) _ _)).from_
      have hrw : ∀ (W : World) (k j : Nat) (u : Value), k < wL.heap.size → W.ownsRow wL.heap.size 9 1 (.slice V (pre.filter acc).length cq) (pre.filter acc).length ((pre.filter acc).map Value.string) → (W.setCell ⟨k, j, none⟩ u).ownsRow wL.heap.size 9 1 (.slice V (pre.filter acc).length cq) (pre.filter acc).length ((pre.filter acc).map Value.string) :=
        fun W k j u hk h => own_far h ⟨rfl, rfl, rfl, by simp [World.setCell], fun q _ hne => Below.heap_setCell W ⟨k, j, none⟩ u q (by rintro rfl; exact hne rfl)⟩ hk
      refine ⟨hkf, rfl, ⟨pre, x, V, cq, rfl, hb0, ?_, hrw _ _ _ _ (by omega) (hrw _ _ _ _ (by omega) (hrw _ _ _ _ (by omega) (hrw _ _ _ _ (by omega) hrow))), ?_⟩, ?_, (by repeat (first | exact Below.refl _ _ | assumption | refine Below.drew ?_ | refine below_drewN ?_ _ | refine Below.alloc ?_ (by first | omega | (simp; omega) | simp) _ | refine Below.setCell ?_ (by first | omega | (simp; omega) | simp) _))⟩
      · exact (((hI.r0.set_ 0 _).far (by first | omega | (simp; omega) | simp) _).far (by first | omega | (simp; omega) | simp) _).far (by first | omega | (simp; omega) | simp) _
      · exact (((hI.r1.far (by first | omega | (simp; omega) | simp) _).set_ 0 _).set_ 1 _).far (by first | omega | (simp; omega) | simp) _
      · exact ((((hI.r2.far (by first | omega | (simp; omega) | simp) _).far (by first | omega | (simp; omega) | simp) _).far (by first | omega | (simp; omega) | simp) _).set_ 0 _)
    · have hne : (((b - pre.length : Nat) : Int) == 0) = false := by rw [beq_eq_false_iff_ne]; omega
      have hsub : ((b - pre.length : Nat) : Int) - 1 = ((b - (pre.length + 1) : Nat) : Int) := by omega
      have hwr : IntKind.i64.wrap (((b - pre.length : Nat) : Int) - 1) = ((b - pre.length : Nat) : Int) - 1 := wrap_i64 _ (by omega) (by omega)
      have HI := Lib.hid hI
      have hac := fun W' (hW : Below w.heap.size w W') => HAC.out W' hW x
      have hfl : (pre.filter acc).length ≤ pre.length := List.length_filter_le _ _
      have hpl : (pre ++ [x]).length = pre.length + 1 := by simp
      have HPL := Lib.hid hpl
      generalize lookG g x = lx at hac
      cases hax : acc x with
      | false =>
        have HFI : Hid ((pre ++ [x]).filter acc = pre.filter acc) := filter_skip hax
        rw [hax] at hac
        have HAX := Lib.hid hac
        clear hac hI hpl hax
        gi_wp2_with (refine ⟨trivial, ?_⟩; gi_at_call 48; refine (callsIn_round (callsIn_wide.2 (HAX.out _ (by repeat (first | exact Below.refl _ _ | assumption | refine Below.drew ?_ | refine below_drewN ?_ _ | refine Below.alloc ?_ (by first | omega | (simp; omega) | simp) _ | refine Below.setCell ?_ (by first | omega | (simp; omega) | simp) _))))).mono ?_; rintro e w3 ⟨rfl, hb3⟩)
        have hI := HI.out
        have hb4 : Below (W.setCell ⟨w.heap.size + 1 + 1, 0, none⟩ (.int .i64 ((b - (pre.length + 1) : Nat) : Int))).heap.size (W.setCell ⟨w.heap.size + 1 + 1, 0, none⟩ (.int .i64 ((b - (pre.length + 1) : Nat) : Int))) w3 := hb3
        have hsz : (W.setCell ⟨w.heap.size + 1 + 1, 0, none⟩ (.int .i64 ((b - (pre.length + 1) : Nat) : Int))).heap.size = W.heap.size := by simp [World.setCell]
        have kp : KeepL wL.heap.size (w2.heap.size + 1) W w3 := (KeepL.set _ (by omega) (by omega) _ _).trans (KeepL.below hb4 (by rw [hsz]; omega))
        refine ⟨kp.from_, kp.t, ?_⟩
        refine ⟨by rw [HPL.out]; omega, ⟨V, cq, ?_, ?_⟩, ?_, ?_, ?_, ?_, ?_, ?_, ?_⟩
        · rw [HFI.out]; exact (hout.far (by first | omega | (simp; omega) | simp) _).below hb4 (by rw [hsz]; have := hout.lt; omega)
        · rw [HFI.out]; exact own_below (own_setfar hrow (by omega) _ _) hb4
        · exact (hI.gr.far (by first | omega | (simp; omega) | simp) _).below hb4 (by rw [hsz]; omega)
        · rw [HPL.out]; exact (hI.bud.set_ 0 _).below hb4 (by rw [hsz]; omega)
        · exact (hI.r0.far (by first | omega | (simp; omega) | simp) _).below hb4 (by rw [hsz]; omega)
        · exact (hI.r1.far (by first | omega | (simp; omega) | simp) _).below hb4 (by rw [hsz]; omega)
        · exact (hI.r2.far (by first | omega | (simp; omega) | simp) _).below hb4 (by rw [hsz]; omega)
        · exact (hwW.setCell (by simp; omega) _).trans (hb4.mono (by rw [hsz]; omega))
        · have := hb4.size; omega
      | true =>
        have HFI : Hid ((pre ++ [x]).filter acc = pre.filter acc ++ [x]) := filter_snoc hax
        rw [hax] at hac
        have HAX := Lib.hid hac
        have HOUT := Lib.hid hout
        have HROW := Lib.hid hrow
        clear hac hI hpl hax hout hrow
        have hsz : ∀ u, (W.setCell ⟨w.heap.size + 1 + 1, 0, none⟩ u).heap.size = W.heap.size := fun u => by simp [World.setCell]
        gi_wp2_with (first
          | (refine ⟨trivial, ?_⟩; gi_at_call 48; refine (callsIn_round (callsIn_wide.2 (HAX.out _ (by repeat (first | exact Below.refl _ _ | assumption | refine Below.drew ?_ | refine below_drewN ?_ _ | refine Below.alloc ?_ (by first | omega | (simp; omega) | simp) _ | refine Below.setCell ?_ (by first | omega | (simp; omega) | simp) _))))).mono ?_; rintro e w3 ⟨rfl, hb3⟩; have ho3 := (HOUT.out.far (p := ⟨w.heap.size + 1 + 1, 0, none⟩) (by simp; omega) (.int .i64 ((b - (pre.length + 1) : Nat) : Int))).below hb3 (by rw [hsz]; have := HOUT.out.lt; omega); have hr3 := own_below (own_setfar (k := w.heap.size + 1 + 1) HROW.out (by omega) 0 (.int .i64 ((b - (pre.length + 1) : Nat) : Int))) hb3; have o3 : w3.cell? ⟨w2.heap.size, 0, none⟩ = some (.slice V (pre.filter acc).length cq) := ho3.cell 0; have hz3 := hb3.size; rw [hsz] at hz3)
          | (gi_at_builtin; refine wpListIn_append_own _ rfl _ _ 79 rfl wL.heap.size 9 i0 (.string ByteArray.empty) 1 16 Try.underlying79 hi hz0 hz1 hz2 rfl (by decide) _ _ _ rfl (hr3.alloc _) ⟨w3.heap.size, 0, none⟩ 1 1 [.string x] rfl rfl (cell_one_new _ _ _) (by simp [Value.oneCell']) (by unfold maxLen; omega) (by omega) (by simp; omega) ?_; intro v' w4 hr4 hg4 _; obtain ⟨g', cap', rfl⟩ := ownsRow_succ hr4; have ho4 := (ho3.alloc _).grown hg4 (own_ne hr3 (by omega)); have o4 : w4.cell? ⟨w2.heap.size, 0, none⟩ = some (.slice V (pre.filter acc).length cq) := ho4.cell 0; have of4 := ho4.frozen 0))
        have hI := HI.out
        have hb4 : Below (W.setCell ⟨w.heap.size + 1 + 1, 0, none⟩ (.int .i64 ((b - (pre.length + 1) : Nat) : Int))).heap.size (W.setCell ⟨w.heap.size + 1 + 1, 0, none⟩ (.int .i64 ((b - (pre.length + 1) : Nat) : Int))) w3 := hb3
        have hw3 : Below w.heap.size w w3 := (hwW.setCell (by first | omega | (simp; omega) | simp) _).trans (hb4.mono (by rw [hsz]; omega))
        have ne : ∀ k, k < wL.heap.size → some k ≠ (Value.slice V (pre.filter acc).length cq).ownBlock := fun k hk => own_ne hr3 hk
        have kp : KeepL wL.heap.size (w2.heap.size + 1) W (w4.setCell ⟨w2.heap.size, 0, none⟩ (.slice (some ⟨g', 0, none⟩) ((pre.filter acc).length + 1) cap')) :=
          (((KeepL.set _ (by omega) (by omega) _ _).trans (KeepL.below hb4 (by rw [hsz]; omega))).trans ((KeepL.below ((Below.refl _ w3).alloc (Nat.le_refl _) _) (by omega)).trans (KeepL.app (hr3.alloc _) hg4 (by omega) (by simp; omega)))).trans (KeepL.set _ (by omega) (by omega) _ _)
        have kb : ∀ (q : Nat) (t : TypeId) (cs : Array Value), Blk (W.setCell ⟨w.heap.size + 1 + 1, 0, none⟩ (.int .i64 ((b - (pre.length + 1) : Nat) : Int))) q t cs → q < w2.heap.size → Blk (w4.setCell ⟨w2.heap.size, 0, none⟩ (.slice (some ⟨g', 0, none⟩) ((pre.filter acc).length + 1) cap')) q t cs := fun q t cs hq hlt =>
          (((hq.below hb4 hq.lt).alloc _).grown hg4 (ne q (by omega))).far (by first | omega | (simp; omega) | simp) _
        refine ⟨kp.from_, kp.t, ?_⟩
        refine ⟨by rw [HPL.out]; omega, ⟨some ⟨g', 0, none⟩, cap', ?_, ?_⟩, ?_, ?_, ?_, ?_, ?_, ?_, ?_⟩
        · rw [HFI.out, List.length_append]; exact ho4.set_ 0 _
        · rw [HFI.out, List.length_append, List.map_append]; exact own_setfar hr4 (by omega) _ _
        · exact kb _ _ _ (hI.gr.far (by first | omega | (simp; omega) | simp) _) (by omega)
        · rw [HPL.out]; exact kb _ _ _ (hI.bud.set_ 0 _) (by omega)
        · exact kb _ _ _ (hI.r0.far (by first | omega | (simp; omega) | simp) _) (by omega)
        · exact kb _ _ _ (hI.r1.far (by first | omega | (simp; omega) | simp) _) (by omega)
        · exact kb _ _ _ (hI.r2.far (by first | omega | (simp; omega) | simp) _) (by omega)
        · exact (below_app (hw3.alloc (by omega) _) (hr3.alloc _) hg4 (by simp; omega) (by omega)).setCell (by omega) _
        · have := hg4.size; simp [World.setCell] at this ⊢; omega
  case done =>
    intro D xs W hD hS hI hK
    subst hS
    obtain ⟨V, cq, hout, hrow⟩ := hI.out
    have hle := hI.le
    have o0 : W.cell? ⟨w2.heap.size, 0, none⟩ = some (.slice V (xs.filter acc).length cq) := hout.cell 0
    have k0 : W.cell? ⟨w.heap.size + 1 + 1 + 1, 0, none⟩ = some (.slice none 0 0) := hI.r0.cell 0
    have k1 : W.cell? ⟨w.heap.size + 1 + 1 + 1 + 1, 0, none⟩ = some (.string ⟨#[]⟩) := hI.r1.cell 0
    have k2 : W.cell? ⟨w.heap.size + 1 + 1 + 1 + 1, 1, none⟩ = some (.bool false) := hI.r1.cell 1
    have k3 : W.cell? ⟨w.heap.size + 1 + 1 + 1 + 1 + 1, 0, none⟩ = some (.int .i64 0) := hI.r2.cell 0
    have f0 := hI.r0.frozen 0
    have f1 := hI.r1.frozen 0
    have f2 := hI.r1.frozen 1
    have f3 := hI.r2.frozen 0
    have hwW := hI.bel
    have HI := Lib.hid hI
    have HK := Lib.hid hK
    clear hI hK
    gi_wp2
    have hI := HI.out
    have hrw : (((((W.setCell ⟨w.heap.size + 1 + 1 + 1, 0, none⟩ (.slice V (xs.filter acc).length cq)).setCell ⟨w.heap.size + 1 + 1 + 1 + 1, 0, none⟩ (.string ⟨#[]⟩)).setCell ⟨w.heap.size + 1 + 1 + 1 + 1, 1, none⟩ (.bool true)).setCell ⟨w.heap.size + 1 + 1 + 1 + 1 + 1, 0, none⟩ (.int .i64 0))).ownsRow wL.heap.size 9 1 (.slice V (xs.filter acc).length cq) (xs.filter acc).length ((xs.filter acc).map Value.string) :=
      own_setfar (own_setfar (own_setfar (own_setfar hrow (by omega) _ _) (by omega) _ _) (by omega) _ _) (by omega) _ _
    have m0 := (((hI.r0.set_ 0 (.slice V (xs.filter acc).length cq)).far (p := ⟨w.heap.size + 1 + 1 + 1 + 1, 0, none⟩) (by first | omega | (simp; omega) | simp) (.string ⟨#[]⟩)).far (p := ⟨w.heap.size + 1 + 1 + 1 + 1, 1, none⟩) (by first | omega | (simp; omega) | simp) (.bool true)).far (p := ⟨w.heap.size + 1 + 1 + 1 + 1 + 1, 0, none⟩) (by first | omega | (simp; omega) | simp) (.int .i64 0)
    have m1 := (((hI.r1.far (p := ⟨w.heap.size + 1 + 1 + 1, 0, none⟩) (by first | omega | (simp; omega) | simp) (.slice V (xs.filter acc).length cq)).set_ 0 (.string ⟨#[]⟩)).set_ 1 (.bool true)).far (p := ⟨w.heap.size + 1 + 1 + 1 + 1 + 1, 0, none⟩) (by first | omega | (simp; omega) | simp) (.int .i64 0)
    have m2 := (((hI.r2.far (p := ⟨w.heap.size + 1 + 1 + 1, 0, none⟩) (by first | omega | (simp; omega) | simp) (.slice V (xs.filter acc).length cq)).far (p := ⟨w.heap.size + 1 + 1 + 1 + 1, 0, none⟩) (by first | omega | (simp; omega) | simp) (.string ⟨#[]⟩)).far (p := ⟨w.heap.size + 1 + 1 + 1 + 1, 1, none⟩) (by first | omega | (simp; omega) | simp) (.bool true)).set_ 0 (.int .i64 0)
    have hKf : (((((W.setCell ⟨w.heap.size + 1 + 1 + 1, 0, none⟩ (.slice V (xs.filter acc).length cq)).setCell ⟨w.heap.size + 1 + 1 + 1 + 1, 0, none⟩ (.string ⟨#[]⟩)).setCell ⟨w.heap.size + 1 + 1 + 1 + 1, 1, none⟩ (.bool true)).setCell ⟨w.heap.size + 1 + 1 + 1 + 1 + 1, 0, none⟩ (.int .i64 0))).heap[D]? = some (.deferred (some [])) := by
      rw [Below.heap_setCell _ _ _ _ (by first | omega | (simp; omega) | simp), Below.heap_setCell _ _ _ _ (by first | omega | (simp; omega) | simp), Below.heap_setCell _ _ _ _ (by first | omega | (simp; omega) | simp), Below.heap_setCell _ _ _ _ (by first | omega | (simp; omega) | simp)]
      exact HK.out
    have hwf : Below w.heap.size w ((((W.setCell ⟨w.heap.size + 1 + 1 + 1, 0, none⟩ (.slice V (xs.filter acc).length cq)).setCell ⟨w.heap.size + 1 + 1 + 1 + 1, 0, none⟩ (.string ⟨#[]⟩)).setCell ⟨w.heap.size + 1 + 1 + 1 + 1, 1, none⟩ (.bool true)).setCell ⟨w.heap.size + 1 + 1 + 1 + 1 + 1, 0, none⟩ (.int .i64 0)) := (by repeat (first | exact Below.refl _ _ | assumption | refine Below.drew ?_ | refine below_drewN ?_ _ | refine Below.alloc ?_ (by first | omega | (simp; omega) | simp) _ | refine Below.setCell ?_ (by first | omega | (simp; omega) | simp) _))
    generalize ((((W.setCell ⟨w.heap.size + 1 + 1 + 1, 0, none⟩ (.slice V (xs.filter acc).length cq)).setCell ⟨w.heap.size + 1 + 1 + 1 + 1, 0, none⟩ (.string ⟨#[]⟩)).setCell ⟨w.heap.size + 1 + 1 + 1 + 1, 1, none⟩ (.bool true)).setCell ⟨w.heap.size + 1 + 1 + 1 + 1 + 1, 0, none⟩ (.int .i64 0)) = Wf at hrw m0 m1 m2 hKf hwf ⊢
    refine ⟨by simp, .inl ⟨_, _, rfl, run_takeDeferred hKf, ?_⟩⟩
    have hrw2 := ownsRow_putObj hrw (.deferred none) hKf rfl
    have hB2 : Below w.heap.size w (Wf.putObj D (.deferred none)) := hwf.trans (belowK_b (w := wL) (by omega) Wf D _ _ hD hKf rfl rfl)
    have m0' : (Wf.putObj D (.deferred none)).cell? ⟨w.heap.size + 1 + 1 + 1, 0, none⟩ = some (.slice V (xs.filter acc).length cq) := cell_put (by omega) (m0.cell 0)
    have m1' : (Wf.putObj D (.deferred none)).cell? ⟨w.heap.size + 1 + 1 + 1 + 1, 0, none⟩ = some (.string ⟨#[]⟩) := cell_put (by omega) (m1.cell 0)
    have m2' : (Wf.putObj D (.deferred none)).cell? ⟨w.heap.size + 1 + 1 + 1 + 1, 1, none⟩ = some (.bool true) := cell_put (by omega) (m1.cell 1)
    have m3' : (Wf.putObj D (.deferred none)).cell? ⟨w.heap.size + 1 + 1 + 1 + 1 + 1, 0, none⟩ = some (.int .i64 0) := cell_put (by omega) (m2.cell 0)
    refine ⟨.tuple #[.slice V (xs.filter acc).length cq, .agg #[.string ⟨#[]⟩, .bool true], .int .i64 0], by simp [results, Try.results74, go_sem, m0', m1', m2', m3'], ?_⟩
    refine HQ.out _ _ hB2 ⟨V, cq, xs.filter acc, (⟨#[]⟩, true), HLL.out _ _ ?_, rfl, ownsRow_low hrw2 (by omega)⟩
    rw [if_neg (by omega)]
  case stop =>
    rintro D c pre W hD ⟨j, hj, rfl⟩ ⟨rfl, hX⟩ hK
    obtain ⟨p, x, V, cq, hp, hpl, m0, hrw, m1⟩ := hX.res
    have m2 := hX.r2
    have hwf := hX.bel
    obtain ⟨y, hy⟩ : ∃ y, T[j]? = some y := ⟨_, List.getElem?_eq_getElem hj⟩
    rw [take_succ_of hy] at hp
    obtain ⟨e1, e2⟩ := List.append_inj' hp rfl
    obtain rfl : y = x := by injection e2
    have hjb : j = b := by rw [← hpl, ← e1, List.length_take]; omega
    subst hjb e1
    gi_wp2
    refine ⟨by simp, .inl ⟨_, _, rfl, run_takeDeferred hK, ?_⟩⟩
    have hrw2 := ownsRow_putObj hrw (.deferred none) hK rfl
    have hB2 : Below w.heap.size w (W.putObj D (.deferred none)) := hwf.trans (belowK_b (w := wL) (by omega) W D _ _ hD hK rfl rfl)
    have m0' : (W.putObj D (.deferred none)).cell? ⟨w.heap.size + 1 + 1 + 1, 0, none⟩ = some (.slice V ((T.take j).filter acc).length cq) := cell_put (by omega) (m0.cell 0)
    have m1' : (W.putObj D (.deferred none)).cell? ⟨w.heap.size + 1 + 1 + 1 + 1, 0, none⟩ = some (.string y) := cell_put (by omega) (m1.cell 0)
    have m2' : (W.putObj D (.deferred none)).cell? ⟨w.heap.size + 1 + 1 + 1 + 1, 1, none⟩ = some (.bool false) := cell_put (by omega) (m1.cell 1)
    have m3' : (W.putObj D (.deferred none)).cell? ⟨w.heap.size + 1 + 1 + 1 + 1 + 1, 0, none⟩ = some (.int .i64 0) := cell_put (by omega) (m2.cell 0)
    refine ⟨.tuple #[.slice V ((T.take j).filter acc).length cq, .agg #[.string y, .bool false], .int .i64 0], by simp [results, Try.results74, go_sem, m0', m1', m2', m3'], ?_⟩
    refine HQ.out _ _ hB2 ⟨V, cq, (T.take j).filter acc, (y, false), HLL.out _ _ ?_, rfl, ownsRow_low hrw2 (by omega)⟩
    rw [if_pos hj, ← HTX.out j y hy]

/-- what list.List answers -/
theorem list_any {g : List Rl} {A : Option Addr} {cp : Nat} {row : Nat → List Value} {w : World} (h : GrIs w w.heap.size g A cp row) (hwf : ∀ r ∈ g, WfE r.2) (a : ByteArray) (n : Int) (ha : a.size ≤ 140737488351232) (hn : I64 n) (c : Cur) (hc : c.1.size ≤ 140737488351232) (b : Int) :
    Calls Try.prog 74 #[.agg #[.slice A g.length cp], .string a, .int .i64 n, curV c, .int .i64 b] w (ListQ g a n c b w) := by
  by_cases hl : LookOk g a n
  · by_cases hok : 0 ≤ b ∧ b ≤ 1048576 ∧ CurOk a.data.toList n.toNat c
    · cases ho : c.2 with
      | true => exact list_over h a n ha hn c hc b hl hok ho
      | false => exact list_go h hwf a n ha hn c b hl hok ho
    · exact list_arg h a n ha hn c hc b hl hok
  · exact list_bad h a n ha hn c b hl
end Go.Proofs.Ytkmcnekjimobhaa
