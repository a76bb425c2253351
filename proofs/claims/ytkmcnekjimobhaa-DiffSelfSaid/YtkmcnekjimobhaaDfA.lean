/- diff.Least. -/
import Derived.Test.YtkmcnekjimobhaaLsF
namespace Go.Proofs.Ytkmcnekjimobhaa
open Go.RowKit Go.Shelf

attribute [local go_sem] Oper.semAt_some

/-- what diff.Least answers -/
def LeastQ (g h : List Rl) (a : ByteArray) (n : Int) (w : World) (e : Ending) (w' : World) : Prop := Below w.heap.size w w' ∧
  ((¬ (LookOk g a n ∧ LookOk h a n) ∧ ∃ x, x ≠ 0 ∧ e = .returned (.tuple #[.string ⟨#[]⟩, .int .i64 0, .int .i64 x])) ∨
   ((LookOk g a n ∧ LookOk h a n) ∧ (∀ u ∈ textsL a.data.toList [] n.toNat, accG g u = accG h u) ∧ e = .returned (.tuple #[.string ⟨#[]⟩, .int .i64 0, .int .i64 12])) ∨
   ((LookOk g a n ∧ LookOk h a n) ∧ ∃ j s, (textsL a.data.toList [] n.toNat)[j]? = some s ∧ (∀ u ∈ (textsL a.data.toList [] n.toNat).take j, accG g u = accG h u) ∧ accG h s = (!accG g s) ∧ e = .returned (.tuple #[.string s, .int .i64 (if accG g s then 1 else 2), .int .i64 0])))
/-- while texts are tried -/
structure DI (p q : ByteArray → Bool) (w : World) (bR : Nat) (gv hv : Value) (pre : List ByteArray) (W : World) : Prop where
  all : ∀ u ∈ pre, p u = q u
  g1 : Blk W w.heap.size 24 #[gv]
  g2 : Blk W (w.heap.size + 1) 24 #[hv]
  r0 : Blk W (w.heap.size + 1 + 1) 9 #[.string ⟨#[]⟩]
  r1 : Blk W (w.heap.size + 1 + 1 + 1) 3 #[.int .i64 0]
  r2 : Blk W (w.heap.size + 1 + 1 + 1 + 1) 28 #[.int .i64 0]
  bel : Below w.heap.size w W
  size : bR ≤ W.heap.size
structure DX (p q : ByteArray → Bool) (w : World) (pre : List ByteArray) (W : World) : Prop where
  res : ∃ l x, pre = l ++ [x] ∧ (∀ u ∈ l, p u = q u) ∧ q x = (!p x) ∧ Blk W (w.heap.size + 1 + 1) 9 #[.string x] ∧ Blk W (w.heap.size + 1 + 1 + 1) 3 #[.int .i64 (if p x then 1 else 2)]
  r2 : Blk W (w.heap.size + 1 + 1 + 1 + 1) 28 #[.int .i64 0]
  bel : Below w.heap.size w W
theorem DI.own {p q : ByteArray → Bool} {w : World} {bR B : Nat} {gv hv : Value} (hB : w.heap.size ≤ B) : OwnFrom B (DI p q w bR gv hv) := by
  intro pre X Y row h hg hr
  have hr' := fun r e => (hr r e).2
  exact ⟨h.all, blk_keep h.g1 hg hr', blk_keep h.g2 hg hr', blk_keep h.r0 hg hr', blk_keep h.r1 hg hr', blk_keep h.r2 hg hr', below_keep h.bel (Nat.le_refl _) hB hg hr, Nat.le_trans h.size hg.size⟩
theorem DX.own {p q : ByteArray → Bool} {w : World} {B : Nat} (hB : w.heap.size ≤ B) (c : Code) : OwnFrom B (fun pre W => c = .ret ∧ DX p q w pre W) := by
  rintro pre X Y row ⟨rfl, h⟩ hg hr
  have hr' := fun r e => (hr r e).2
  obtain ⟨l, x, h1, h2, h3, h4, h5⟩ := h.res
  exact ⟨rfl, ⟨l, x, h1, h2, h3, blk_keep h4 hg hr', blk_keep h5 hg hr'⟩, blk_keep h.r2 hg hr', below_keep h.bel (Nat.le_refl _) hB hg hr⟩

theorem DI.below {p q : ByteArray → Bool} {w W W' : World} {bR : Nat} {gv hv : Value} {pre : List ByteArray} (h : DI p q w bR gv hv pre W) (hb : Below W.heap.size W W') : DI p q w bR gv hv pre W' :=
  ⟨h.all, h.g1.below hb h.g1.lt, h.g2.below hb h.g2.lt, h.r0.below hb h.r0.lt, h.r1.below hb h.r1.lt, h.r2.below hb h.r2.lt, h.bel.trans (hb.mono h.bel.size), Nat.le_trans h.size hb.size⟩
theorem DI.snoc {p q : ByteArray → Bool} {w W : World} {bR : Nat} {gv hv : Value} {pre : List ByteArray} {x : ByteArray} (h : DI p q w bR gv hv pre W) (hx : p x = q x) : DI p q w bR gv hv (pre ++ [x]) W :=
  ⟨fun u hu => by rcases List.mem_append.1 hu with hu | hu; exact h.all u hu; rw [List.mem_singleton.1 hu]; exact hx, h.g1, h.g2, h.r0, h.r1, h.r2, h.bel, h.size⟩
theorem DI.more {p q : ByteArray → Bool} {w W : World} {bR bR' : Nat} {gv hv : Value} {pre : List ByteArray} (h : DI p q w bR gv hv pre W) (hb : bR' ≤ W.heap.size) : DI p q w bR' gv hv pre W := ⟨h.all, h.g1, h.g2, h.r0, h.r1, h.r2, h.bel, hb⟩

set_option maxRecDepth 100000 in
set_option maxHeartbeats 8000000 in
theorem least_any {g h : List Rl} {A A' : Option Addr} {cp cp' : Nat} {row row' : Nat → List Value} {w : World} (hg : GrIs w w.heap.size g A cp row) (hwg : ∀ r ∈ g, WfE r.2) (hh : GrIs w w.heap.size h A' cp' row') (hwh : ∀ r ∈ h, WfE r.2) (a : ByteArray) (n : Int) (ha : a.size ≤ 140737488351232) (hn : I64 n) :
    Calls Try.prog 34 #[.agg #[.slice A g.length cp], .agg #[.slice A' h.length cp'], .string a, .int .i64 n] w (LeastQ g h a n w) := by
  have hro : Fence.wide.round = none := rfl
  have hl1 := fun W (hW : Below w.heap.size w W) => llook_any (hg.grow hW) a n ha hn
  have hl2 := fun W (hW : Below w.heap.size w W) => llook_any (hh.grow hW) a n ha hn
  have HL1 := Lib.hid hl1
  have HL2 := Lib.hid hl2
  have hac1 := fun W (hW : Below w.heap.size w W) (t : ByteArray) => acc_any (hg.grow hW) hwg t
  have hac2 := fun W (hW : Below w.heap.size w W) (t : ByteArray) => acc_any (hh.grow hW) hwh t
  have HQ1 : Hid (∀ w' x, Below w.heap.size w w' → ¬ (LookOk g a n ∧ LookOk h a n) → x ≠ 0 → LeastQ g h a n w (.returned (.tuple #[.string ⟨#[]⟩, .int .i64 0, .int .i64 x])) w') := fun w' x hb h0 h1 => ⟨hb, .inl ⟨h0, x, h1, rfl⟩⟩
  have HQ2 : Hid (∀ w', Below w.heap.size w w' → (LookOk g a n ∧ LookOk h a n) → (∀ u ∈ textsL a.data.toList [] n.toNat, accG g u = accG h u) → LeastQ g h a n w (.returned (.tuple #[.string ⟨#[]⟩, .int .i64 0, .int .i64 12])) w') := fun w' hb h0 h1 => ⟨hb, .inr (.inl ⟨h0, h1, rfl⟩)⟩
  have HQ3 : Hid (∀ w' j s, Below w.heap.size w w' → (LookOk g a n ∧ LookOk h a n) → (textsL a.data.toList [] n.toNat)[j]? = some s → (∀ u ∈ (textsL a.data.toList [] n.toNat).take j, accG g u = accG h u) → accG h s = (!accG g s) → LeastQ g h a n w (.returned (.tuple #[.string s, .int .i64 (if accG g s then 1 else 2), .int .i64 0])) w') := fun w' j s hb h0 h1 h2 h3 => ⟨hb, .inr (.inr ⟨h0, j, s, h1, h2, h3, rfl⟩)⟩
  obtain ⟨p, hp⟩ : ∃ p, accG g = p := ⟨_, rfl⟩
  obtain ⟨q, hq⟩ : ∃ q, accG h = q := ⟨_, rfl⟩
  simp only [hp] at HQ2 HQ3 hac1
  simp only [hq] at HQ2 HQ3 hac2
  have HA1 := Lib.hid hac1
  have HA2 := Lib.hid hac2
  clear hl1 hl2 hac1 hac2 hp hq hg hh hwg hwh
  generalize LeastQ g h a n w = Q at HQ1 HQ2 HQ3 ⊢
  unfold LLookQ at HL1 HL2
  obtain ⟨L1, hL1⟩ : ∃ L, LookOk g a n = L := ⟨_, rfl⟩
  have HLG : Hid (L1 → (AlphaOk a.data.toList ∧ ∃ k : Nat, n = k ∧ k ≤ 6 ∧ shN a.size (k + 1) ≤ 5000)) := fun hx => by rw [← hL1] at hx; exact hx.2
  obtain ⟨L2, hL2⟩ : ∃ L, LookOk h a n = L := ⟨_, rfl⟩
  rw [hL1] at HL1 HQ1 HQ2 HQ3
  rw [hL2] at HL2 HQ1 HQ2 HQ3
  clear hL1 hL2
  refine (callsIn_wide (n := 5)).1 ?_
  refine callsIn_of_wp_marks Try.func34 rfl trivial ?_ hro
  simp only [Try.ntmps34, List.size_toArray, List.length_cons, List.length_nil, Nat.reduceAdd, Nat.reduceSub, Array.replicate_succ, Array.replicate_zero, List.push_toArray, List.append_toArray, List.nil_append, List.cons_append]
  gi_wp2
  have hz5 : (((((w.alloc (.cells #[.slice A g.length cp] 24)).alloc (.cells #[.slice A' h.length cp'] 24)).alloc (.cells #[.string ⟨#[]⟩] 9)).alloc (.cells #[.int .i64 0] 3)).alloc (.cells #[.int .i64 0] 28)).heap.size = w.heap.size + 5 := by simp
  gi_loopw [23] (fun i wr => ∃ j : Nat, j ≤ 2 ∧ i = .int .i64 j ∧ DI p q w (w.heap.size + 6) (.slice A g.length cp) (.slice A' h.length cp') [] wr ∧ Blk wr (w.heap.size + 5) 24 #[.slice A g.length cp, .slice A' h.length cp'] ∧ (0 < j → L1) ∧ (1 < j → L2)) (fun i _ => 2 - (intOf i).toNat)
  case atStart =>
    refine ⟨0, by omega, rfl, ⟨(fun u hu => by cases hu), (((((blk_at rfl).alloc _).alloc _).alloc _).alloc _).alloc _, ((((blk_at (by simp)).alloc _).alloc _).alloc _).alloc _, (((blk_at (by simp)).alloc _).alloc _).alloc _, ((blk_at (by simp)).alloc _).alloc _, (blk_at (by simp)).alloc _, (by repeat (first | exact Below.refl _ _ | assumption | refine Below.drew ?_ | refine below_drewN ?_ _ | refine Below.alloc ?_ (by first | omega | (simp; omega) | simp) _ | refine Below.setCell ?_ (by first | omega | (simp; omega) | simp) _)), by simp⟩, blk_at (by simp), fun h => absurd h (by omega), fun h => absurd h (by omega)⟩
  case round =>
    obtain ⟨j, hj, rfl, hD, harr, hj1, hj2⟩ := hrel
    have hwr := hD.bel
    have hzr := hwr.size
    have hsr := hD.size
    have a0 : wr.cell? ⟨w.heap.size + 1 + 1 + 1 + 1 + 1, 0, none⟩ = some (.slice A g.length cp) := harr.cell 0
    have a1 : wr.cell? ⟨w.heap.size + 1 + 1 + 1 + 1 + 1, 1, none⟩ = some (.slice A' h.length cp') := harr.cell 1
    have al := harr.lt
    match j, hj with
    | 0, _ =>
      by_cases hL : L1
      · gi_wp2_with (refine ⟨trivial, ?_⟩; gi_at_call 70; refine (callsIn_wide.2 (HL1.out _ (by repeat (first | exact Below.refl _ _ | assumption | refine Below.drew ?_ | refine below_drewN ?_ _ | refine Below.alloc ?_ (by first | omega | (simp; omega) | simp) _ | refine Below.setCell ?_ (by first | omega | (simp; omega) | simp) _)))).mono ?_; rintro e w1 ⟨⟨x, rfl, hx, -⟩, hb1⟩; obtain rfl := hx.2 hL; clear hx)
        go_roundw
        case rel => exact ⟨1, by omega, by go_num, (hD.below ((Below.refl _ wr).alloc (Nat.le_refl _) _)).below hb1, (harr.alloc _).below hb1 (by first | omega | (simp; omega) | simp), fun _ => hL, fun h => absurd h (by omega)⟩
        case measure => simp [intOf]
      · gi_wp2_with (refine ⟨trivial, ?_⟩; gi_at_call 70; refine (callsIn_wide.2 (HL1.out _ (by repeat (first | exact Below.refl _ _ | assumption | refine Below.drew ?_ | refine below_drewN ?_ _ | refine Below.alloc ?_ (by first | omega | (simp; omega) | simp) _ | refine Below.setCell ?_ (by first | omega | (simp; omega) | simp) _)))).mono ?_; rintro e w1 ⟨⟨x, rfl, hx, -⟩, hb1⟩; have hx0 : x ≠ 0 := fun h => hL (hx.1 h); have hxb : (x != 0) = true := bne_iff_ne.2 hx0; have hD1 := (hD.below ((Below.refl _ wr).alloc (Nat.le_refl _) _)).below hb1; have k0 := hD1.r0.cell 0; have k1 := hD1.r1.cell 0; have k2 := hD1.r2.cell 0; have f0 := hD1.r0.frozen 0; have f1 := hD1.r1.frozen 0; have f2 := hD1.r2.frozen 0; simp at k0 k1 k2; clear hx)
        have hw1 := hD1.bel
        have hz1 := hw1.size
        exact ⟨.tuple #[.string ⟨#[]⟩, .int .i64 0, .int .i64 x], by simp [results, Try.results34, go_sem, k0, k1, k2], HQ1.out _ _ (by repeat (first | exact Below.refl _ _ | assumption | refine Below.drew ?_ | refine below_drewN ?_ _ | refine Below.alloc ?_ (by first | omega | (simp; omega) | simp) _ | refine Below.setCell ?_ (by first | omega | (simp; omega) | simp) _)) (fun h => hL h.1) hx0⟩
    | 1, _ =>
      by_cases hL : L2
      · gi_wp2_with (refine ⟨trivial, ?_⟩; gi_at_call 70; refine (callsIn_wide.2 (HL2.out _ (by repeat (first | exact Below.refl _ _ | assumption | refine Below.drew ?_ | refine below_drewN ?_ _ | refine Below.alloc ?_ (by first | omega | (simp; omega) | simp) _ | refine Below.setCell ?_ (by first | omega | (simp; omega) | simp) _)))).mono ?_; rintro e w1 ⟨⟨x, rfl, hx, -⟩, hb1⟩; obtain rfl := hx.2 hL; clear hx)
        go_roundw
        case rel => exact ⟨2, by omega, by go_num, (hD.below ((Below.refl _ wr).alloc (Nat.le_refl _) _)).below hb1, (harr.alloc _).below hb1 (by first | omega | (simp; omega) | simp), fun _ => hj1 (by omega), fun _ => hL⟩
        case measure => simp [intOf]
      · gi_wp2_with (refine ⟨trivial, ?_⟩; gi_at_call 70; refine (callsIn_wide.2 (HL2.out _ (by repeat (first | exact Below.refl _ _ | assumption | refine Below.drew ?_ | refine below_drewN ?_ _ | refine Below.alloc ?_ (by first | omega | (simp; omega) | simp) _ | refine Below.setCell ?_ (by first | omega | (simp; omega) | simp) _)))).mono ?_; rintro e w1 ⟨⟨x, rfl, hx, -⟩, hb1⟩; have hx0 : x ≠ 0 := fun h => hL (hx.1 h); have hxb : (x != 0) = true := bne_iff_ne.2 hx0; have hD1 := (hD.below ((Below.refl _ wr).alloc (Nat.le_refl _) _)).below hb1; have k0 := hD1.r0.cell 0; have k1 := hD1.r1.cell 0; have k2 := hD1.r2.cell 0; have f0 := hD1.r0.frozen 0; have f1 := hD1.r1.frozen 0; have f2 := hD1.r2.frozen 0; simp at k0 k1 k2; clear hx)
        have hw1 := hD1.bel
        have hz1 := hw1.size
        exact ⟨.tuple #[.string ⟨#[]⟩, .int .i64 0, .int .i64 x], by simp [results, Try.results34, go_sem, k0, k1, k2], HQ1.out _ _ (by repeat (first | exact Below.refl _ _ | assumption | refine Below.drew ?_ | refine below_drewN ?_ _ | refine Below.alloc ?_ (by first | omega | (simp; omega) | simp) _ | refine Below.setCell ?_ (by first | omega | (simp; omega) | simp) _)) (fun h => hL h.2) hx0⟩
    | 2, _ =>
      have hL1 : L1 := hj1 (by omega)
      have hL2 : L2 := hj2 (by omega)
      obtain ⟨hao, k, rfl, hk6, hk5⟩ := HLG.out hL1
      have hLL : Hid (L1 ∧ L2) := ⟨hL1, hL2⟩
      have ho : OverOk a.data.toList (⟨#[]⟩ : ByteArray).data.toList := ⟨hao, by simp, by simp⟩
      have hst := fun (B : Nat) (W : World) => texts_stops (5 - 1) a ⟨#[]⟩ k hk6 ha ho (Nat.zero_le _) B W
      have HST := Lib.hid hst
      simp only [Int.toNat_natCast] at HQ2 HQ3
      obtain ⟨T, hT⟩ : ∃ T, textsL a.data.toList [] k = T := ⟨_, rfl⟩
      have hT' : textsL a.data.toList (⟨#[]⟩ : ByteArray).data.toList k = T := hT
      rw [hT] at HQ2 HQ3
      rw [hT'] at HST
      have HD := Lib.hid hD
      clear hst hT hT' hao ho hk5 hD harr a0 a1 al hL1 hL2 hj1 hj2
      gi_wp2_with (refine ⟨trivial, ?_⟩; gi_at_call 71; refine (textsf_in _ _ _ _ _).mono ?_; rintro e w3 ⟨rfl, rfl⟩)
      obtain ⟨wL, hwL⟩ : ∃ wL, ((wr.alloc (.cells #[.string a] 9)).alloc (.cells #[.string ⟨#[]⟩] 9)).alloc (.cells #[.int .i64 k] 3) = wL := ⟨_, rfl⟩
      have hbL : Below wr.heap.size wr wL := by rw [← hwL]; exact (((Below.refl _ _).alloc (Nat.le_refl _) _).alloc (by simp) _).alloc (by simp; omega) _
      have hsL : wr.heap.size + 3 = wL.heap.size := by rw [← hwL]; simp
      have t1 : Blk wL wr.heap.size 9 #[.string a] := by rw [← hwL]; exact ((blk_at rfl).alloc _).alloc _
      have t2 : Blk wL (wr.heap.size + 1) 9 #[.string ⟨#[]⟩] := by rw [← hwL]; exact (blk_at (by simp)).alloc _
      have t3 : Blk wL (wr.heap.size + 1 + 1) 3 #[.int .i64 k] := by rw [← hwL]; exact blk_at (by simp)
      have hstop := HST.out wr.heap.size wL t1 t2 t3
      have HR := Lib.hid ((HD.out.below hbL).more (bR' := wL.heap.size) (Nat.le_refl _))
      clear t1 t2 t3 hbL
      try simp only [World.size_alloc]
      rw [hwL]
      refine wpIn_rangeFunc_one (val := Value.string) hro (by omega) (gf := 100) (lb := #[.pointer (some ⟨wr.heap.size + 1, 0, none⟩), .pointer (some ⟨wr.heap.size + 1 + 1, 0, none⟩), .pointer (some ⟨wr.heap.size, 0, none⟩)]) (by rfl) trivial (enters_of Try.func100 (by kernel_rfl) rfl)
        hstop (fun W => KeepT.refl _ W) KeepT.trans (fun W l o o' h1 h2 h3 h4 => KeepT.put (w := wL) (by omega) W l o o' h1 h2 h3 h4) (Below.refl _ _)
        (DI p q w wL.heap.size (.slice A g.length cp) (.slice A' h.length cp')) (fun c pre W => c = .ret ∧ DX p q w pre W) (DI.own (by omega)) (fun c => DX.own (by omega) c) HR.out 14 ?assign ?body ?done ?stop
      case assign =>
        intro l x W K hK
        gi_wp2
        exact hK
      case body =>
        intro l pre x W hlL hrec hI hlt
        simp only [List.setIfInBounds_toArray, List.set_cons_succ, List.set_cons_zero]
        have hWs := hI.size
        have hwW := hI.bel
        have g0 : W.cell? ⟨w.heap.size, 0, none⟩ = some (.slice A g.length cp) := hI.g1.cell 0
        have hc1 := fun W' (hW : Below w.heap.size w W') => HA1.out W' hW x
        have hc2 := fun W' (hW : Below w.heap.size w W') => HA2.out W' hW x
        generalize lookG g x = lx at hc1
        generalize lookG h x = ly at hc2
        have HI := Lib.hid hI
        clear hI
        have hrz : w.heap.size + 6 ≤ wr.heap.size := hsr
        rcases Bool.eq_false_or_eq_true (p x) with hp | hp <;> rcases Bool.eq_false_or_eq_true (q x) with hq | hq
        · rw [hp] at hc1
          rw [hq] at hc2
          have H1st := Lib.hid hq
          have HC1 := Lib.hid hc1
          have HC2 := Lib.hid hc2
          clear hc1 hc2
          gi_wp2_with (first
            | (clear H1st; refine ⟨trivial, ?_⟩; gi_at_call 48; refine (callsIn_round (callsIn_wide.2 (HC1.out _ (by repeat (first | exact Below.refl _ _ | assumption | refine Below.drew ?_ | refine below_drewN ?_ _ | refine Below.alloc ?_ (by first | omega | (simp; omega) | simp) _ | refine Below.setCell ?_ (by first | omega | (simp; omega) | simp) _))))).mono ?_; rintro e w4 ⟨rfl, hb4⟩; have hD4 := HI.out.below hb4; have hw4 := hD4.bel; have e1 : w4.cell? ⟨w.heap.size + 1, 0, none⟩ = some (.slice A' h.length cp') := hD4.g2.cell 0)
            | (refine ⟨trivial, ?_⟩; gi_at_call 48; refine (callsIn_round (callsIn_wide.2 (HC2.out _ hw4))).mono ?_; rintro e w5 ⟨rfl, hb5⟩; have hD5 := hD4.below hb5; have k0 := hD5.r0.cell 0; have k1 := hD5.r1.cell 0; have k2 := hD5.r2.cell 0; have f0 := hD5.r0.frozen 0; have f1 := hD5.r1.frozen 0; have f2 := hD5.r2.frozen 0; simp at k0 k1 k2))
          have hz4 := hb4.size
          have kp : KeepL wL.heap.size wr.heap.size W w5 := (KeepL.below hb4 (by omega)).trans (KeepL.below hb5 (by omega))
          exact ⟨kp.from_, kp.t, hD5.snoc (by rw [hp, hq])⟩
        · rw [hp] at hc1
          rw [hq] at hc2
          have H1st := Lib.hid hq
          have HC1 := Lib.hid hc1
          have HC2 := Lib.hid hc2
          clear hc1 hc2
          gi_wp2_with (first
            | (clear H1st; refine ⟨trivial, ?_⟩; gi_at_call 48; refine (callsIn_round (callsIn_wide.2 (HC1.out _ (by repeat (first | exact Below.refl _ _ | assumption | refine Below.drew ?_ | refine below_drewN ?_ _ | refine Below.alloc ?_ (by first | omega | (simp; omega) | simp) _ | refine Below.setCell ?_ (by first | omega | (simp; omega) | simp) _))))).mono ?_; rintro e w4 ⟨rfl, hb4⟩; have hD4 := HI.out.below hb4; have hw4 := hD4.bel; have e1 : w4.cell? ⟨w.heap.size + 1, 0, none⟩ = some (.slice A' h.length cp') := hD4.g2.cell 0)
            | (refine ⟨trivial, ?_⟩; gi_at_call 48; refine (callsIn_round (callsIn_wide.2 (HC2.out _ hw4))).mono ?_; rintro e w5 ⟨rfl, hb5⟩; have hD5 := hD4.below hb5; have k0 := hD5.r0.cell 0; have k1 := hD5.r1.cell 0; have k2 := hD5.r2.cell 0; have f0 := hD5.r0.frozen 0; have f1 := hD5.r1.frozen 0; have f2 := hD5.r2.frozen 0; simp at k0 k1 k2))
          have hz4 := hb4.size
          have hw5 := hD5.bel
          have hz5' := hD5.size
          have kp : KeepL wL.heap.size wr.heap.size W (((w5.setCell ⟨w.heap.size + 1 + 1, 0, none⟩ (.string x)).setCell ⟨w.heap.size + 1 + 1 + 1, 0, none⟩ (.int .i64 1)).setCell ⟨w.heap.size + 1 + 1 + 1 + 1, 0, none⟩ (.int .i64 0)) :=
            ((((KeepL.below hb4 (by omega)).trans (KeepL.below hb5 (by omega))).trans (KeepL.set _ (by omega) (by omega) _ _)).trans (KeepL.set _ (by omega) (by omega) _ _)).trans (KeepL.set _ (by omega) (by omega) _ _)
          refine ⟨kp.from_, rfl, ⟨pre, x, rfl, hD5.all, by rw [hp, hq]; rfl, ?_, ?_⟩, ?_, (by repeat (first | exact Below.refl _ _ | assumption | refine Below.drew ?_ | refine below_drewN ?_ _ | refine Below.alloc ?_ (by first | omega | (simp; omega) | simp) _ | refine Below.setCell ?_ (by first | omega | (simp; omega) | simp) _))⟩
          · exact ((hD5.r0.set_ 0 _).far (by first | omega | (simp; omega) | simp) _).far (by first | omega | (simp; omega) | simp) _
          · rw [hp]; exact ((hD5.r1.far (by first | omega | (simp; omega) | simp) _).set_ 0 _).far (by first | omega | (simp; omega) | simp) _
          · exact ((hD5.r2.far (by first | omega | (simp; omega) | simp) _).far (by first | omega | (simp; omega) | simp) _).set_ 0 _
        · rw [hp] at hc1
          rw [hq] at hc2
          have H1st := Lib.hid hq
          have HC1 := Lib.hid hc1
          have HC2 := Lib.hid hc2
          clear hc1 hc2
          gi_wp2_with (first
            | (clear H1st; refine ⟨trivial, ?_⟩; gi_at_call 48; refine (callsIn_round (callsIn_wide.2 (HC1.out _ (by repeat (first | exact Below.refl _ _ | assumption | refine Below.drew ?_ | refine below_drewN ?_ _ | refine Below.alloc ?_ (by first | omega | (simp; omega) | simp) _ | refine Below.setCell ?_ (by first | omega | (simp; omega) | simp) _))))).mono ?_; rintro e w4 ⟨rfl, hb4⟩; have hD4 := HI.out.below hb4; have hw4 := hD4.bel; have e1 : w4.cell? ⟨w.heap.size + 1, 0, none⟩ = some (.slice A' h.length cp') := hD4.g2.cell 0)
            | (refine ⟨trivial, ?_⟩; gi_at_call 48; refine (callsIn_round (callsIn_wide.2 (HC2.out _ hw4))).mono ?_; rintro e w5 ⟨rfl, hb5⟩; have hD5 := hD4.below hb5; have k0 := hD5.r0.cell 0; have k1 := hD5.r1.cell 0; have k2 := hD5.r2.cell 0; have f0 := hD5.r0.frozen 0; have f1 := hD5.r1.frozen 0; have f2 := hD5.r2.frozen 0; simp at k0 k1 k2))
          have hz4 := hb4.size
          have hw5 := hD5.bel
          have hz5' := hD5.size
          have kp : KeepL wL.heap.size wr.heap.size W (((w5.setCell ⟨w.heap.size + 1 + 1, 0, none⟩ (.string x)).setCell ⟨w.heap.size + 1 + 1 + 1, 0, none⟩ (.int .i64 2)).setCell ⟨w.heap.size + 1 + 1 + 1 + 1, 0, none⟩ (.int .i64 0)) :=
            ((((KeepL.below hb4 (by omega)).trans (KeepL.below hb5 (by omega))).trans (KeepL.set _ (by omega) (by omega) _ _)).trans (KeepL.set _ (by omega) (by omega) _ _)).trans (KeepL.set _ (by omega) (by omega) _ _)
          refine ⟨kp.from_, rfl, ⟨pre, x, rfl, hD5.all, by rw [hp, hq]; rfl, ?_, ?_⟩, ?_, (by repeat (first | exact Below.refl _ _ | assumption | refine Below.drew ?_ | refine below_drewN ?_ _ | refine Below.alloc ?_ (by first | omega | (simp; omega) | simp) _ | refine Below.setCell ?_ (by first | omega | (simp; omega) | simp) _))⟩
          · exact ((hD5.r0.set_ 0 _).far (by first | omega | (simp; omega) | simp) _).far (by first | omega | (simp; omega) | simp) _
          · rw [hp]; exact ((hD5.r1.far (by first | omega | (simp; omega) | simp) _).set_ 0 _).far (by first | omega | (simp; omega) | simp) _
          · exact ((hD5.r2.far (by first | omega | (simp; omega) | simp) _).far (by first | omega | (simp; omega) | simp) _).set_ 0 _
        · rw [hp] at hc1
          rw [hq] at hc2
          have H1st := Lib.hid hq
          have HC1 := Lib.hid hc1
          have HC2 := Lib.hid hc2
          clear hc1 hc2
          gi_wp2_with (first
            | (clear H1st; refine ⟨trivial, ?_⟩; gi_at_call 48; refine (callsIn_round (callsIn_wide.2 (HC1.out _ (by repeat (first | exact Below.refl _ _ | assumption | refine Below.drew ?_ | refine below_drewN ?_ _ | refine Below.alloc ?_ (by first | omega | (simp; omega) | simp) _ | refine Below.setCell ?_ (by first | omega | (simp; omega) | simp) _))))).mono ?_; rintro e w4 ⟨rfl, hb4⟩; have hD4 := HI.out.below hb4; have hw4 := hD4.bel; have e1 : w4.cell? ⟨w.heap.size + 1, 0, none⟩ = some (.slice A' h.length cp') := hD4.g2.cell 0)
            | (refine ⟨trivial, ?_⟩; gi_at_call 48; refine (callsIn_round (callsIn_wide.2 (HC2.out _ hw4))).mono ?_; rintro e w5 ⟨rfl, hb5⟩; have hD5 := hD4.below hb5; have k0 := hD5.r0.cell 0; have k1 := hD5.r1.cell 0; have k2 := hD5.r2.cell 0; have f0 := hD5.r0.frozen 0; have f1 := hD5.r1.frozen 0; have f2 := hD5.r2.frozen 0; simp at k0 k1 k2))
          have hz4 := hb4.size
          have kp : KeepL wL.heap.size wr.heap.size W w5 := (KeepL.below hb4 (by omega)).trans (KeepL.below hb5 (by omega))
          exact ⟨kp.from_, kp.t, hD5.snoc (by rw [hp, hq])⟩
      case done =>
        intro D xs W hD hS hI hK
        subst hS
        have k0 : W.cell? ⟨w.heap.size + 1 + 1, 0, none⟩ = some (.string ⟨#[]⟩) := hI.r0.cell 0
        have k1 : W.cell? ⟨w.heap.size + 1 + 1 + 1, 0, none⟩ = some (.int .i64 0) := hI.r1.cell 0
        have k2 : W.cell? ⟨w.heap.size + 1 + 1 + 1 + 1, 0, none⟩ = some (.int .i64 0) := hI.r2.cell 0
        have f0 := hI.r0.frozen 0
        have f1 := hI.r1.frozen 0
        have f2 := hI.r2.frozen 0
        have hwW := hI.bel
        have hrz : w.heap.size + 6 ≤ wr.heap.size := hsr
        have HI := Lib.hid hI
        have HK := Lib.hid hK
        clear hI hK
        gi_wp2
        have hI := HI.out
        have m0 := ((hI.r0.set_ 0 (.string ⟨#[]⟩)).far (p := ⟨w.heap.size + 1 + 1 + 1, 0, none⟩) (by first | omega | (simp; omega) | simp) (.int .i64 0)).far (p := ⟨w.heap.size + 1 + 1 + 1 + 1, 0, none⟩) (by first | omega | (simp; omega) | simp) (.int .i64 12)
        have m1 := ((hI.r1.far (p := ⟨w.heap.size + 1 + 1, 0, none⟩) (by first | omega | (simp; omega) | simp) (.string ⟨#[]⟩)).set_ 0 (.int .i64 0)).far (p := ⟨w.heap.size + 1 + 1 + 1 + 1, 0, none⟩) (by first | omega | (simp; omega) | simp) (.int .i64 12)
        have m2 := ((hI.r2.far (p := ⟨w.heap.size + 1 + 1, 0, none⟩) (by first | omega | (simp; omega) | simp) (.string ⟨#[]⟩)).far (p := ⟨w.heap.size + 1 + 1 + 1, 0, none⟩) (by first | omega | (simp; omega) | simp) (.int .i64 0)).set_ 0 (.int .i64 12)
        have hKf : (((W.setCell ⟨w.heap.size + 1 + 1, 0, none⟩ (.string ⟨#[]⟩)).setCell ⟨w.heap.size + 1 + 1 + 1, 0, none⟩ (.int .i64 0)).setCell ⟨w.heap.size + 1 + 1 + 1 + 1, 0, none⟩ (.int .i64 12)).heap[D]? = some (.deferred (some [])) := by
          rw [Below.heap_setCell _ _ _ _ (by first | omega | (simp; omega) | simp), Below.heap_setCell _ _ _ _ (by first | omega | (simp; omega) | simp), Below.heap_setCell _ _ _ _ (by first | omega | (simp; omega) | simp)]
          exact HK.out
        have hwf : Below w.heap.size w (((W.setCell ⟨w.heap.size + 1 + 1, 0, none⟩ (.string ⟨#[]⟩)).setCell ⟨w.heap.size + 1 + 1 + 1, 0, none⟩ (.int .i64 0)).setCell ⟨w.heap.size + 1 + 1 + 1 + 1, 0, none⟩ (.int .i64 12)) := (by repeat (first | exact Below.refl _ _ | assumption | refine Below.drew ?_ | refine below_drewN ?_ _ | refine Below.alloc ?_ (by first | omega | (simp; omega) | simp) _ | refine Below.setCell ?_ (by first | omega | (simp; omega) | simp) _))
        generalize ((W.setCell ⟨w.heap.size + 1 + 1, 0, none⟩ (.string ⟨#[]⟩)).setCell ⟨w.heap.size + 1 + 1 + 1, 0, none⟩ (.int .i64 0)).setCell ⟨w.heap.size + 1 + 1 + 1 + 1, 0, none⟩ (.int .i64 12) = Wf at m0 m1 m2 hKf hwf ⊢
        refine ⟨by simp, .inl ⟨_, _, rfl, run_takeDeferred hKf, ?_⟩⟩
        have hB2 : Below w.heap.size w (Wf.putObj D (.deferred none)) := hwf.trans (belowK_b (w := wL) (by omega) Wf D _ _ hD hKf rfl rfl)
        have m0' : (Wf.putObj D (.deferred none)).cell? ⟨w.heap.size + 1 + 1, 0, none⟩ = some (.string ⟨#[]⟩) := cell_put (by omega) (m0.cell 0)
        have m1' : (Wf.putObj D (.deferred none)).cell? ⟨w.heap.size + 1 + 1 + 1, 0, none⟩ = some (.int .i64 0) := cell_put (by omega) (m1.cell 0)
        have m2' : (Wf.putObj D (.deferred none)).cell? ⟨w.heap.size + 1 + 1 + 1 + 1, 0, none⟩ = some (.int .i64 12) := cell_put (by omega) (m2.cell 0)
        exact ⟨.tuple #[.string ⟨#[]⟩, .int .i64 0, .int .i64 12], by simp [results, Try.results34, go_sem, m0', m1', m2'], HQ2.out _ hB2 hLL.out hI.all⟩
      case stop =>
        rintro D c pre W hD ⟨j, hj, rfl⟩ ⟨rfl, hX⟩ hK
        obtain ⟨l, x, hl, hall, hpq, m0, m1⟩ := hX.res
        have m2 := hX.r2
        have hwf := hX.bel
        have hrz : w.heap.size + 6 ≤ wr.heap.size := hsr
        obtain ⟨y, hy⟩ : ∃ y, T[j]? = some y := ⟨_, List.getElem?_eq_getElem hj⟩
        rw [take_succ_of hy] at hl
        obtain ⟨e1, e2⟩ := List.append_inj' hl rfl
        obtain rfl : y = x := by injection e2
        subst e1
        gi_wp2
        refine ⟨by simp, .inl ⟨_, _, rfl, run_takeDeferred hK, ?_⟩⟩
        have hB2 : Below w.heap.size w (W.putObj D (.deferred none)) := hwf.trans (belowK_b (w := wL) (by omega) W D _ _ hD hK rfl rfl)
        have m0' : (W.putObj D (.deferred none)).cell? ⟨w.heap.size + 1 + 1, 0, none⟩ = some (.string y) := cell_put (by omega) (m0.cell 0)
        have m1' : (W.putObj D (.deferred none)).cell? ⟨w.heap.size + 1 + 1 + 1, 0, none⟩ = some (.int .i64 (if p y then 1 else 2)) := cell_put (by omega) (m1.cell 0)
        have m2' : (W.putObj D (.deferred none)).cell? ⟨w.heap.size + 1 + 1 + 1 + 1, 0, none⟩ = some (.int .i64 0) := cell_put (by omega) (m2.cell 0)
        have hr := HQ3.out _ j y hB2 hLL.out hy hall hpq
        generalize (if p y then (1 : Int) else 2) = v at m1' hr
        exact ⟨.tuple #[.string y, .int .i64 v, .int .i64 0], by simp [results, Try.results34, go_sem, m0', m1', m2'], hr⟩
end Go.Proofs.Ytkmcnekjimobhaa
