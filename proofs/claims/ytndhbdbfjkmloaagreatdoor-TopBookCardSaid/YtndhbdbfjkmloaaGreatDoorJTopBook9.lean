/- strings.HasPrefix; how much of a literal stands at a place. (*Parser).node: what has no kids. (*Parser).Rule. -/
import Derived.Test.YtndhbdbfjkmloaaGreatDoorJTopBook8
import Derived.Lib.Strings
import Derived.Deep.RegionLawGrows
import Derived.Deep.DeepCutAuto
import Derived.Lib.SmallJoins
namespace Go.Proofs.YtndhbdbfjkmloaaGreatDoor
open Go.RowKit Go.Maps

set_option maxRecDepth 100000 in
theorem hasPrefix0_any (s p : ByteArray) (w : World) : Calls Tryz.prog 99 #[.string s, .string p] w fun e w' => e = .returned (.bool (p.data.toList.isPrefixOf s.data.toList)) ∧ Below w.heap.size w w' := by
  have HX : Hid ((decide (p.data.toList.length ≤ s.data.toList.length) && (s.data.toList.take p.data.toList.length == p.data.toList)) = p.data.toList.isPrefixOf s.data.toList) := Lib.hasPrefix_of_take _ _
  generalize p.data.toList.isPrefixOf s.data.toList = r at HX
  have HL := Lib.hid (size_list s)
  have HP := Lib.hid (size_list p)
  by_cases h : p.size ≤ s.size
  · have HY : Hid (((s.extract 0 p.size).toList == p.toList) = r) := by
      show _ = _
      rw [← HX.out, Lib.extract_toList, ByteArray.toList_eq, List.drop_zero, HL.out, HP.out, decide_eq_true h, Bool.true_and, Nat.sub_zero]
    clear HX
    go_enter Tryz.func99, Tryz.ntmps99
    go_wp2
    go_ret
    exact ⟨ret_bool HY.out, (by repeat (first | exact Below.refl _ _ | assumption | refine Below.drew ?_ | refine below_drewN ?_ _ | refine Below.alloc ?_ (by first | omega | (simp; omega) | simp) _ | refine Below.setCell ?_ (by first | omega | (simp; omega) | simp) _))⟩
  · have HY : Hid (r = false) := by
      show _ = _
      rw [← HX.out, HL.out, HP.out, decide_eq_false h, Bool.false_and]
    clear HX
    go_enter Tryz.func99, Tryz.ntmps99
    go_wp2
    go_ret
    exact ⟨ret_bool HY.out.symm, (by repeat (first | exact Below.refl _ _ | assumption | refine Below.drew ?_ | refine below_drewN ?_ _ | refine Below.alloc ?_ (by first | omega | (simp; omega) | simp) _ | refine Below.setCell ?_ (by first | omega | (simp; omega) | simp) _))⟩
set_option maxRecDepth 100000 in
theorem hasPrefix_any (s p : ByteArray) (w : World) : Calls Tryz.prog 77 #[.string s, .string p] w fun e w' => e = .returned (.bool (p.data.toList.isPrefixOf s.data.toList)) ∧ Below w.heap.size w w' := by
  have hc := hasPrefix0_any s p
  generalize p.data.toList.isPrefixOf s.data.toList = r at hc ⊢
  have HC := Lib.hid hc
  clear hc
  go_enter Tryz.func77, Tryz.ntmps77
  go_wp2_with fail
  refine (HC.out _).mono ?_
  rintro e w1 ⟨rfl, hb⟩
  go_wp2
  go_ret
  exact ⟨rfl, hb⟩

/-! how much of a text stands at a place -/
section
variable (s : List UInt8) (p : Nat) (t : List UInt8)
theorem alike_spec : ∀ (f k : Nat), k + f = t.length → (∀ j, j < k → p + j < s.length ∧ bt s (p + j) = bt t j) → litAt s p t = false →
    alike s p t f k < t.length ∧ k ≤ alike s p t f k ∧ p + alike s p t f k ≤ max (p + k) s.length := by
  intro f
  induction f with
  | zero =>
    intro k hk hs hl
    exfalso
    have hk : k = t.length := by omega
    have : litAt s p t = true := by
      unfold litAt
      rw [List.isPrefixOf_iff_prefix, List.prefix_iff_eq_take]
      apply List.ext_getElem?
      intro j
      rw [List.getElem?_take]
      split
      · rename_i hj
        obtain ⟨h1, h2⟩ := hs j (by omega)
        rw [List.getElem?_drop, List.getElem?_eq_getElem h1, List.getElem?_eq_getElem hj]
        unfold bt at h2
        rw [List.getD_eq_getElem?_getD, List.getD_eq_getElem?_getD, List.getElem?_eq_getElem h1, List.getElem?_eq_getElem hj] at h2
        simp only [Option.getD_some] at h2
        rw [UInt8.toNat.inj h2]
      · rw [List.getElem?_eq_none (by omega)]
    rw [this] at hl
    cases hl
  | succ f ih =>
    intro k hk hs hl
    unfold alike
    split
    · rename_i h
      obtain ⟨a, b, c⟩ := ih (k + 1) (by omega) (fun j hj => by
        by_cases hjk : j < k
        · exact hs j hjk
        · obtain rfl : j = k := by omega
          exact h) hl
      exact ⟨a, by omega, by omega⟩
    · exact ⟨by omega, Nat.le_refl _, by omega⟩
theorem matchN_lt (h : litAt s p t = false) (hp : p ≤ s.length) : matchN s p t < t.length ∧ p + matchN s p t ≤ s.length := by
  obtain ⟨a, _, c⟩ := alike_spec s p t t.length 0 (by omega) (fun j h => by omega) h
  exact ⟨a, by unfold matchN; omega⟩
end

/-- nothing goes back -/
theorem pk_ge (g : List Rl) (s : List UInt8) (hook : Bool) : ∀ m j p σ o σ1, pk g s hook m j p σ = some (o, σ1) → ∀ tq, o = some tq → p ≤ tq := by
  intro m
  induction m with
  | zero => intro j p σ o σ1 h; cases h
  | succ m ih =>
    intro j p σ o σ1 h tq ht
    cases j with
    | try_ e n =>
      simp only [pk] at h
      cases he : pk g s hook m (.node e n) p σ with
      | none => rw [he] at h; cases h
      | some x =>
        obtain ⟨o', σ'⟩ := x
        rw [he] at h
        simp only [Option.some.injEq, Prod.mk.injEq] at h
        obtain ⟨rfl, rfl⟩ := h
        exact ih _ _ _ _ _ he tq ht
    | rule i =>
      simp only [pk] at h
      cases hs : recall σ.seen (i, p) with
      | some o' =>
        rw [hs] at h
        simp only [Option.some.injEq, Prod.mk.injEq] at h
        obtain ⟨rfl, rfl⟩ := h
        cases o' with
        | none => cases ht
        | some k => simp only [Option.map_some, Option.some.injEq] at ht; omega
      | none =>
        rw [hs] at h
        simp only at h
        cases hg : g[i]? with
        | none => rw [hg] at h; cases h
        | some r =>
          rw [hg] at h
          simp only at h
          cases he : pk g s hook m (.try_ r.2 (firstN g i)) p σ with
          | none => rw [he] at h; cases h
          | some x =>
            obtain ⟨o', σ'⟩ := x
            rw [he] at h
            simp only at h
            split at h
            · cases h
            · simp only [Option.some.injEq, Prod.mk.injEq] at h
              obtain ⟨rfl, _⟩ := h
              exact ih _ _ _ _ _ he tq ht
    | seq es n =>
      cases es with
      | nil => simp only [pk, Option.some.injEq, Prod.mk.injEq] at h; obtain ⟨rfl, _⟩ := h; injection ht with ht; omega
      | cons e es =>
        simp only [pk] at h
        cases he : pk g s hook m (.try_ e n) p σ with
        | none => rw [he] at h; cases h
        | some x =>
          obtain ⟨o', σ'⟩ := x
          rw [he] at h
          cases o' with
          | none => simp only [Option.some.injEq, Prod.mk.injEq] at h; obtain ⟨rfl, _⟩ := h; cases ht
          | some q => exact Nat.le_trans (ih _ _ _ _ _ he q rfl) (ih _ _ _ _ _ h tq ht)
    | alt es n =>
      cases es with
      | nil => simp only [pk, Option.some.injEq, Prod.mk.injEq] at h; obtain ⟨rfl, _⟩ := h; cases ht
      | cons e es =>
        simp only [pk] at h
        cases he : pk g s hook m (.try_ e n) p σ with
        | none => rw [he] at h; cases h
        | some x =>
          obtain ⟨o', σ'⟩ := x
          rw [he] at h
          cases o' with
          | none => exact ih _ _ _ _ _ h tq ht
          | some q =>
            simp only [Option.some.injEq, Prod.mk.injEq] at h
            obtain ⟨rfl, _⟩ := h
            exact ih _ _ _ _ _ he tq ht
    | rep e n =>
      simp only [pk] at h
      cases he : pk g s hook m (.try_ e n) p σ with
      | none => rw [he] at h; cases h
      | some x =>
        obtain ⟨o', σ'⟩ := x
        rw [he] at h
        cases o' with
        | none => simp only [Option.some.injEq, Prod.mk.injEq] at h; obtain ⟨rfl, _⟩ := h; injection ht with ht; omega
        | some q => exact Nat.le_trans (ih _ _ _ _ _ he q rfl) (ih _ _ _ _ _ h tq ht)
    | node e n =>
      obtain ⟨k, a, b, c, d, t, ks⟩ := e
      rw [pk_node] at h
      split at h
      · simp only [Option.some.injEq, Prod.mk.injEq] at h; obtain ⟨rfl, _⟩ := h; injection ht with ht; omega
      split at h
      · split at h
        · simp only [Option.some.injEq, Prod.mk.injEq] at h; obtain ⟨rfl, _⟩ := h; injection ht with ht; omega
        · simp only [Option.some.injEq, Prod.mk.injEq] at h; obtain ⟨rfl, _⟩ := h; cases ht
      split at h
      · split at h
        · simp only [Option.some.injEq, Prod.mk.injEq] at h; obtain ⟨rfl, _⟩ := h; injection ht with ht; omega
        · simp only [Option.some.injEq, Prod.mk.injEq] at h; obtain ⟨rfl, _⟩ := h; cases ht
      split at h
      · exact ih _ _ _ _ _ h tq ht
      split at h
      · exact ih _ _ _ _ _ h tq ht
      split at h
      · exact ih _ _ _ _ _ h tq ht
      split at h
      · cases h
      · exact ih _ _ _ _ _ h tq ht
    | one k e n =>
      simp only [pk] at h
      cases he : pk g s hook m (.try_ e (n + 1)) p σ with
      | none => rw [he] at h; cases h
      | some x =>
        obtain ⟨o', σ'⟩ := x
        rw [he] at h
        cases o' with
        | none =>
          simp only [Option.some.injEq, Prod.mk.injEq] at h; obtain ⟨rfl, _⟩ := h
          split at ht
          · cases ht
          · injection ht with ht; omega
        | some q =>
          have hq := ih _ _ _ _ _ he q rfl
          simp only at h
          split at h
          · simp only [Option.some.injEq, Prod.mk.injEq] at h; obtain ⟨rfl, _⟩ := h; injection ht with ht; omega
          split at h
          · simp only [Option.some.injEq, Prod.mk.injEq] at h; obtain ⟨rfl, _⟩ := h; cases ht
          split at h
          · simp only [Option.some.injEq, Prod.mk.injEq] at h; obtain ⟨rfl, _⟩ := h; injection ht with ht; omega
          exact Nat.le_trans hq (ih _ _ _ _ _ h tq ht)
end Go.Proofs.YtndhbdbfjkmloaaGreatDoor
namespace Go.Proofs.YtndhbdbfjkmloaaGreatDoor
open Go.RowKit Go.Maps

theorem wrap_i64 (n : Int) (h1 : -9223372036854775808 ≤ n) (h2 : n ≤ 9223372036854775807) : IntKind.i64.wrap n = n := by
  unfold IntKind.wrap IntKind.signed IntKind.bits
  simp
  omega
/-- where a node's walk stands: the parser, all that was, the node's own cells -/
structure NodeC (c : PC) (w : World) (σ : PS) (bc : Array Value) (W : World) : Prop where
  par : Par c W σ
  keeps : Keeps c w W
  box : Blk W w.heap.size 66 bc
section
variable {c : PC} {w W W' : World} {σ : PS} {bc : Array Value}
theorem NodeC.drew (h : NodeC c w σ bc W) : NodeC c w σ bc W.drew := ⟨h.par.drew, h.keeps.drew, h.box.drew⟩
theorem NodeC.below (h : NodeC c w σ bc W) (hok : c.Ok) (hb : Below W.heap.size W W') : NodeC c w σ bc W' := ⟨h.par.below hok hb, h.keeps.trans (Keeps.of_below hb), h.box.below hb h.box.lt⟩
theorem NodeC.start (h : Par c w σ) (hok : c.Ok) (bc : Array Value) : NodeC c w σ bc (w.alloc (.cells bc 66)) :=
  ⟨h.alloc hok _, (Keeps.refl c w).alloc _, blk_at rfl⟩
theorem NodeC.past (h : NodeC c w σ bc W) (hok : c.Ok) (hw : c.base ≤ w.heap.size) {σ' : PS} (hp : Par c W' σ') (hk : Keeps c W W') : NodeC c w σ' bc W' :=
  ⟨hp, h.keeps.trans hk, hk.box h.box (by decide) (by have := hok.P; omega) (by have := hok.M; omega)⟩
end

set_option maxRecDepth 100000 in
set_option maxHeartbeats 4000000 in
theorem node_empty {c : PC} (hok : c.Ok) {σ : PS} (a b d1 d2 : Int) (t : ByteArray) (A : Option Addr) (n cp num p : Nat) (w : World) (h : Par c w σ) :
    Calls Tryz.prog 59 #[.pointer (some ⟨c.P, 0, none⟩), .agg #[.int .i64 1, .int .u64 a, .int .u64 b, .int .u64 d1, .int .u64 d2, .string t, .slice A n cp], .int .i64 num, .int .i64 p] w (Went c w (some p, σ)) := by
  have hN := NodeC.start h hok #[.int .i64 1, .int .u64 a, .int .u64 b, .int .u64 d1, .int .u64 d2, .string t, .slice A n cp]
  go_enter Tryz.func59, Tryz.ntmps59
  go_wp2
  go_ret2
  exact ⟨⟨p, rfl, fun tq ht => by injection ht with ht; rw [ht]⟩, hN.par, hN.keeps⟩

set_option maxRecDepth 100000 in
set_option maxHeartbeats 4000000 in
theorem node_set {c : PC} (hok : c.Ok) {σ : PS} (a b d1 d2 : Nat) (ha : a < 18446744073709551616) (hb : b < 18446744073709551616) (hc : d1 < 18446744073709551616) (hd : d2 < 18446744073709551616) (t : ByteArray) (A : Option Addr) (n cp num p : Nat) (hp : p ≤ c.s.data.toList.length) (hl : c.s.data.toList.length ≤ big) (w : World) (h : Par c w σ) :
    Calls Tryz.prog 59 #[.pointer (some ⟨c.P, 0, none⟩), .agg #[.int .i64 2, .int .u64 a, .int .u64 b, .int .u64 d1, .int .u64 d2, .string t, .slice A n cp], .int .i64 num, .int .i64 p] w
      (Went c w (if p < c.s.data.toList.length ∧ hasE a b d1 d2 (bt c.s.data.toList p) = true then (some (p + 1), σ) else (none, missS σ p ⟨a, b, d1, d2⟩))) := by
  have hN := NodeC.start h hok #[.int .i64 2, .int .u64 a, .int .u64 b, .int .u64 d1, .int .u64 d2, .string t, .slice A n cp]
  have hsz := h.size
  have hlen : c.s.data.toList.length = c.s.size := size_list _
  rw [hlen] at hp hl ⊢
  unfold big at hl
  have hms := fun W (q : Par c W σ) => miss_any hok p ⟨a, b, d1, d2⟩ W q
  have HM := Lib.hid hms
  have hwd : Words [a, b, d1, d2] := fun i => by
    match i with
    | 0 => exact ha
    | 1 => exact hb
    | 2 => exact hc
    | 3 => exact hd
    | i + 4 => simp
  clear hms ha hb hc hd hlen
  by_cases hlt : p < c.s.size
  · have hbt := bt_of hlt
    have hh := has_any [a, b, d1, d2] hwd (bt c.s.data.toList p) (bt_lt _ _)
    unfold vals at hh
    have HX : Hid (hasE a b d1 d2 (bt c.s.data.toList p) = hasN [a, b, d1, d2] (bt c.s.data.toList p)) := by
      show _ = _
      unfold hasE
      simp only [Int.toNat_natCast]
    generalize hasN [a, b, d1, d2] (bt c.s.data.toList p) = x at hh HX
    rw [HX.out]
    have hlt' : (p : Int) < (c.s.size : Int) := by omega
    clear HX hwd
    generalize bt c.s.data.toList p = y at hbt hh
    cases x with
    | true =>
      rw [if_pos ⟨hlt, rfl⟩]
      have HH := Lib.hid hh; clear hh
      go_enter Tryz.func59, Tryz.ntmps59
      go_wp2_with fail
      refine wp_region_q (NodeC c w σ #[.int .i64 2, .int .u64 a, .int .u64 b, .int .u64 d1, .int .u64 d2, .string t, .slice A n cp]) (by kernel_rfl) (by kernel_rfl) hN.drew ?_
      repeat
        (first | ((with_reducible apply QW.free rfl); · (intro W hW; have s1 := hW.par.c1; have t1 := hW.box.cell 1; have t2 := hW.box.cell 2; have t3 := hW.box.cell 3; have t4 := hW.box.cell 4; go_simp; first | rfl | (go_at_call 75; refine (HH.out _).mono ?_; exact fun e w' h => ⟨h.1, hW.below hok h.2⟩))) | ((with_reducible apply QW.skip rfl); · (first | exact ⟨_, _, rfl, rfl, .inl rfl⟩ | exact ⟨_, _, rfl, rfl, .inr rfl⟩)) | ((with_reducible apply QW.take rfl); (· exact ⟨_, rfl, rfl⟩); (· (intro W hW; have s1 := hW.par.c1; have t1 := hW.box.cell 1; have t2 := hW.box.cell 2; have t3 := hW.box.cell 3; have t4 := hW.box.cell 4; go_simp; first | rfl | (go_at_call 75; refine (HH.out _).mono ?_; exact fun e w' h => ⟨h.1, hW.below hok h.2⟩))))); (try simp only [Act.put, List.setIfInBounds_toArray, List.set_cons_zero, List.set_cons_succ])
      refine QW.nil ?_
      intro w1 h1
      go_wp2
      go_ret2
      exact ⟨⟨((p + 1 : Nat) : Int), by simp, fun tq ht => by injection ht with ht; rw [ht]⟩, h1.par, h1.keeps⟩
    | false =>
      rw [if_neg (by simp)]
      have HH := Lib.hid hh; clear hh
      go_enter Tryz.func59, Tryz.ntmps59
      go_wp2_with fail
      refine wp_region_q (NodeC c w σ #[.int .i64 2, .int .u64 a, .int .u64 b, .int .u64 d1, .int .u64 d2, .string t, .slice A n cp]) (by kernel_rfl) (by kernel_rfl) hN.drew ?_
      repeat
        (first | ((with_reducible apply QW.free rfl); · (intro W hW; have s1 := hW.par.c1; have t1 := hW.box.cell 1; have t2 := hW.box.cell 2; have t3 := hW.box.cell 3; have t4 := hW.box.cell 4; go_simp; first | rfl | (go_at_call 75; refine (HH.out _).mono ?_; exact fun e w' h => ⟨h.1, hW.below hok h.2⟩))) | ((with_reducible apply QW.skip rfl); · (first | exact ⟨_, _, rfl, rfl, .inl rfl⟩ | exact ⟨_, _, rfl, rfl, .inr rfl⟩)) | ((with_reducible apply QW.take rfl); (· exact ⟨_, rfl, rfl⟩); (· (intro W hW; have s1 := hW.par.c1; have t1 := hW.box.cell 1; have t2 := hW.box.cell 2; have t3 := hW.box.cell 3; have t4 := hW.box.cell 4; go_simp; first | rfl | (go_at_call 75; refine (HH.out _).mono ?_; exact fun e w' h => ⟨h.1, hW.below hok h.2⟩))))); (try simp only [Act.put, List.setIfInBounds_toArray, List.set_cons_zero, List.set_cons_succ])
      refine QW.nil ?_
      intro w1 h1
      have t1 := h1.box.cell 1
      have t2 := h1.box.cell 2
      have t3 := h1.box.cell 3
      have t4 := h1.box.cell 4
      go_wp2_with fail
      refine (HM.out _ h1.par).mono ?_
      rintro e w2 ⟨rfl, q1, q2⟩
      go_wp2
      go_ret2
      exact ⟨⟨0, rfl, fun tq ht => (by cases ht)⟩, q1, h1.keeps.trans q2⟩
  · rw [if_neg (fun h => hlt h.1)]
    have hlt' : ((p : Int) < (c.s.size : Int)) = False := by simp; omega
    clear hwd hlt
    skip
    go_enter Tryz.func59, Tryz.ntmps59
    go_wp2_with fail
    refine wp_region_q (NodeC c w σ #[.int .i64 2, .int .u64 a, .int .u64 b, .int .u64 d1, .int .u64 d2, .string t, .slice A n cp]) (by kernel_rfl) (by kernel_rfl) hN.drew ?_
    repeat
      (first | ((with_reducible apply QW.free rfl); · (intro W hW; have s1 := hW.par.c1; have t1 := hW.box.cell 1; have t2 := hW.box.cell 2; have t3 := hW.box.cell 3; have t4 := hW.box.cell 4; go_simp; first | rfl | fail)) | ((with_reducible apply QW.skip rfl); · (first | exact ⟨_, _, rfl, rfl, .inl rfl⟩ | exact ⟨_, _, rfl, rfl, .inr rfl⟩)) | ((with_reducible apply QW.take rfl); (· exact ⟨_, rfl, rfl⟩); (· (intro W hW; have s1 := hW.par.c1; have t1 := hW.box.cell 1; have t2 := hW.box.cell 2; have t3 := hW.box.cell 3; have t4 := hW.box.cell 4; go_simp; first | rfl | fail)))); (try simp only [Act.put, List.setIfInBounds_toArray, List.set_cons_zero, List.set_cons_succ])
    refine QW.nil ?_
    intro w1 h1
    have t1 := h1.box.cell 1
    have t2 := h1.box.cell 2
    have t3 := h1.box.cell 3
    have t4 := h1.box.cell 4
    go_wp2_with fail
    refine (HM.out _ h1.par).mono ?_
    rintro e w2 ⟨rfl, q1, q2⟩
    go_wp2
    go_ret2
    exact ⟨⟨0, rfl, fun tq ht => (by cases ht)⟩, q1, h1.keeps.trans q2⟩

theorem alike_ge (s : List UInt8) (p : Nat) (t : List UInt8) : ∀ f k, k ≤ alike s p t f k
  | 0, k => Nat.le_refl _
  | f + 1, k => by
    unfold alike
    split
    · exact Nat.le_trans (Nat.le_succ k) (alike_ge s p t f (k + 1))
    · exact Nat.le_refl _
set_option maxRecDepth 100000 in
set_option maxHeartbeats 8000000 in
theorem node_lit {c : PC} (hok : c.Ok) {σ : PS} (a b d1 d2 : Int) (t : ByteArray) (A : Option Addr) (n cp num p : Nat) (hp : p ≤ c.s.data.toList.length) (hl : c.s.data.toList.length ≤ big) (ht : t.size ≤ big) (w : World) (h : Par c w σ) :
    Calls Tryz.prog 59 #[.pointer (some ⟨c.P, 0, none⟩), .agg #[.int .i64 3, .int .u64 a, .int .u64 b, .int .u64 d1, .int .u64 d2, .string t, .slice A n cp], .int .i64 num, .int .i64 p] w
      (Went c w (if litAt c.s.data.toList p t.data.toList = true then (some (p + t.size), σ) else (none, missS σ (p + matchN c.s.data.toList p t.data.toList) (oneS (bt t.data.toList (matchN c.s.data.toList p t.data.toList)))))) := by
  have hN := NodeC.start h hok #[.int .i64 3, .int .u64 a, .int .u64 b, .int .u64 d1, .int .u64 d2, .string t, .slice A n cp]
  have hsz := h.size
  have hlen : c.s.data.toList.length = c.s.size := size_list _
  have htl : t.data.toList.length = t.size := size_list _
  have hmt := matchN_lt c.s.data.toList p t.data.toList
  have hpf := hasPrefix_any (c.s.extract p c.s.size) t
  have hpe : t.data.toList.isPrefixOf (c.s.extract p c.s.size).data.toList = litAt c.s.data.toList p t.data.toList := by
    rw [Lib.extract_data, ← hlen, litAt, List.take_of_length_le (by rw [List.length_drop]; exact Nat.le_refl _)]
  rw [hpe] at hpf
  rw [hlen] at hp hl hmt
  rw [htl] at hmt
  unfold big at hl ht
  clear hpe h
  cases hx : litAt c.s.data.toList p t.data.toList with
  | true =>
    rw [hx] at hpf
    rw [if_pos rfl]
    have HPF := Lib.hid hpf
    clear hmt hpf hx hlen htl
    go_enter Tryz.func59, Tryz.ntmps59
    go_wp2_with fail
    refine wp_region_q (NodeC c w σ #[.int .i64 3, .int .u64 a, .int .u64 b, .int .u64 d1, .int .u64 d2, .string t, .slice A n cp]) (by kernel_rfl) (by kernel_rfl) hN.drew ?_
    repeat
      (first | ((with_reducible apply QW.free rfl); · (intro W hW; have s1 := hW.par.c1; have t5 := hW.box.cell 5; go_simp; first | rfl | (go_at_call 77; refine (HPF.out _).mono ?_; exact fun e w' h => ⟨h.1, hW.below hok h.2⟩))) | ((with_reducible apply QW.skip rfl); · (first | exact ⟨_, _, rfl, rfl, .inl rfl⟩ | exact ⟨_, _, rfl, rfl, .inr rfl⟩)) | ((with_reducible apply QW.take rfl); (· exact ⟨_, rfl, rfl⟩); (· (intro W hW; have s1 := hW.par.c1; have t5 := hW.box.cell 5; go_simp; first | rfl | (go_at_call 77; refine (HPF.out _).mono ?_; exact fun e w' h => ⟨h.1, hW.below hok h.2⟩))))); (try simp only [Act.put, List.setIfInBounds_toArray, List.set_cons_zero, List.set_cons_succ])
    refine QW.nil ?_
    intro w1 h1
    have t5 := h1.box.cell 5
    go_wp2
    go_ret2
    exact ⟨⟨((p + t.size : Nat) : Int), by simp, fun tq ht => by injection ht with ht; rw [ht]⟩, h1.par, h1.keeps⟩
  | false =>
    rw [hx] at hpf
    rw [if_neg (by simp)]
    have hmt := hmt hx hp
    have HM0 : Hid (alike c.s.data.toList p t.data.toList t.size 0 = matchN c.s.data.toList p t.data.toList) := by
      show _ = _
      rw [matchN, htl]
    generalize matchN c.s.data.toList p t.data.toList = M at HM0 hmt ⊢
    have hms := fun W (q : Par c W σ) => miss_any hok (p + M) (oneS (bt t.data.toList M)) W q
    have hbM := bt_of hmt.1
    have hrg := fun W => range_any (bt t.data.toList M) (bt t.data.toList M) W (by have := bt_lt t.data.toList M; unfold I64; omega) (by have := bt_lt t.data.toList M; unfold I64; omega) (bt t.data.toList M) 1 (by omega) (by have := bt_lt t.data.toList M; omega)
    have hwo : words (rangeL (bt t.data.toList M) 1) = #[.int .u64 (oneS (bt t.data.toList M)).a, .int .u64 (oneS (bt t.data.toList M)).b, .int .u64 (oneS (bt t.data.toList M)).c, .int .u64 (oneS (bt t.data.toList M)).d] := by
      have hl4 := rangeL_len (bt t.data.toList M) 1
      unfold words oneS
      generalize rangeL (bt t.data.toList M) 1 = l at hl4
      match l, hl4 with
      | [x0, x1, x2, x3], _ => rfl
    rw [hwo] at hrg
    generalize hy : bt t.data.toList M = y at hms hbM hrg
    have hy256 : y < 256 := by rw [← hy]; exact bt_lt _ _
    have hwy : IntKind.i64.wrap (y : Int) = (y : Int) := wrap_i64 _ (by omega) (by omega)
    have HPF := Lib.hid hpf
    have HMS := Lib.hid hms
    have HRG := Lib.hid hrg
    clear hwo hy hms hrg hpf hx hlen htl
    obtain ⟨hM1, hM2⟩ := hmt
    go_enter Tryz.func59, Tryz.ntmps59
    go_wp2_with fail
    refine wp_region_q (NodeC c w σ #[.int .i64 3, .int .u64 a, .int .u64 b, .int .u64 d1, .int .u64 d2, .string t, .slice A n cp]) (by kernel_rfl) (by kernel_rfl) hN.drew ?_
    repeat
      (first | ((with_reducible apply QW.free rfl); · (intro W hW; have s1 := hW.par.c1; have t5 := hW.box.cell 5; go_simp; first | rfl | (go_at_call 77; refine (HPF.out _).mono ?_; exact fun e w' h => ⟨h.1, hW.below hok h.2⟩))) | ((with_reducible apply QW.skip rfl); · (first | exact ⟨_, _, rfl, rfl, .inl rfl⟩ | exact ⟨_, _, rfl, rfl, .inr rfl⟩)) | ((with_reducible apply QW.take rfl); (· exact ⟨_, rfl, rfl⟩); (· (intro W hW; have s1 := hW.par.c1; have t5 := hW.box.cell 5; go_simp; first | rfl | (go_at_call 77; refine (HPF.out _).mono ?_; exact fun e w' h => ⟨h.1, hW.below hok h.2⟩))))); (try simp only [Act.put, List.setIfInBounds_toArray, List.set_cons_zero, List.set_cons_succ])
    refine QW.nil ?_
    intro w1 h1
    clear hN
    go_wp2
    go_loopw [10] (fun v wr => ∃ j f : Nat, v = .int .i64 j ∧ j + f = t.size ∧ j ≤ M ∧ Hid (alike c.s.data.toList p t.data.toList f j = M) ∧ NodeC c w σ #[.int .i64 3, .int .u64 a, .int .u64 b, .int .u64 d1, .int .u64 d2, .string t, .slice A n cp] wr) (fun v _ => t.size - (intOf v).toNat)
    case atStart => exact ⟨0, t.size, rfl, by omega, by omega, HM0, h1⟩
    case round =>
      clear h1
      obtain ⟨j, f, rfl, hjf, hjM, HA, h1⟩ := hrel
      have hstep : ∃ f', f = f' + 1 := ⟨f - 1, by omega⟩
      obtain ⟨f', rfl⟩ := hstep
      have HA' : Hid ((if p + j < c.s.data.toList.length ∧ bt c.s.data.toList (p + j) = bt t.data.toList j then alike c.s.data.toList p t.data.toList f' (j + 1) else j) = M) := HA.out
      rw [size_list] at HA'
      have hjt : j < t.size := by omega
      have hbj := bt_of hjt
      have hjt' : (j : Int) < (t.size : Int) := by omega
      have hwr : IntKind.i64.wrap ((p : Int) + (j : Int)) = (p : Int) + (j : Int) := wrap_i64 _ (by omega) (by omega)
      by_cases hlt : p + j < c.s.size
      · have hbs := bt_of hlt
        have hlt' : (p : Int) + (j : Int) < (c.s.size : Int) := by omega
        have hpj0 : (0 : Int) ≤ (p : Int) + (j : Int) := by omega
        have hpjn : ((p : Int) + (j : Int)).toNat = p + j := by omega
        generalize hx1 : bt c.s.data.toList (p + j) = x1 at hbs HA'
        generalize hx2 : bt t.data.toList j = x2 at hbj HA'
        clear hx1 hx2
        by_cases heq : x1 = x2
        · subst heq
          have HB : Hid (alike c.s.data.toList p t.data.toList f' (j + 1) = M) := by
            show _ = _
            rw [← HA'.out, if_pos ⟨hlt, rfl⟩]
          have hge : j + 1 ≤ M := by rw [← HB.out]; exact alike_ge _ _ _ _ _
          clear HA HA'
          go_wp2_with fail
          refine wp_region_q (NodeC c w σ #[.int .i64 3, .int .u64 a, .int .u64 b, .int .u64 d1, .int .u64 d2, .string t, .slice A n cp]) (by kernel_rfl) (by kernel_rfl) h1.drew ?_
          repeat
            (first | ((with_reducible apply QW.free rfl); · (intro W hW; have s1 := hW.par.c1; have t5 := hW.box.cell 5; go_simp; first | rfl)) | ((with_reducible apply QW.skip rfl); · (first | exact ⟨_, _, rfl, rfl, .inl rfl⟩ | exact ⟨_, _, rfl, rfl, .inr rfl⟩)) | ((with_reducible apply QW.take rfl); (· exact ⟨_, rfl, rfl⟩); (· (intro W hW; have s1 := hW.par.c1; have t5 := hW.box.cell 5; go_simp; first | rfl)))); (try simp only [Act.put, List.setIfInBounds_toArray, List.set_cons_zero, List.set_cons_succ])
          refine QW.nil ?_
          intro w2 h2
          go_wp2
          go_roundw
          case rel => exact ⟨j + 1, f', by go_num, by omega, by omega, HB, h2⟩
          case measure => simp [intOf]; omega
        · have hne : ((x1 : Int) == (x2 : Int)) = false := by rw [beq_eq_false_iff_ne]; omega
          obtain rfl : j = M := by rw [← HA'.out, if_neg (fun h => heq h.2)]
          obtain rfl : x2 = y := hbj.symm.trans hbM
          clear HA HA' heq hbM
          go_wp2_with fail
          refine wp_region_q (NodeC c w σ #[.int .i64 3, .int .u64 a, .int .u64 b, .int .u64 d1, .int .u64 d2, .string t, .slice A n cp]) (by kernel_rfl) (by kernel_rfl) h1.drew ?_
          repeat
            (first | ((with_reducible apply QW.free rfl); · (intro W hW; have s1 := hW.par.c1; have t5 := hW.box.cell 5; go_simp; first | rfl)) | ((with_reducible apply QW.skip rfl); · (first | exact ⟨_, _, rfl, rfl, .inl rfl⟩ | exact ⟨_, _, rfl, rfl, .inr rfl⟩)) | ((with_reducible apply QW.take rfl); (· exact ⟨_, rfl, rfl⟩); (· (intro W hW; have s1 := hW.par.c1; have t5 := hW.box.cell 5; go_simp; first | rfl)))); (try simp only [Act.put, List.setIfInBounds_toArray, List.set_cons_zero, List.set_cons_succ])
          refine QW.nil ?_
          intro w2 h2
          go_wp2_with fail
          refine wp_region_t (NodeC c w σ #[.int .i64 3, .int .u64 a, .int .u64 b, .int .u64 d1, .int .u64 d2, .string t, .slice A n cp]) 15 (by kernel_rfl) (by kernel_rfl) h2.drew ?_
          simp only [List.take_succ_cons, List.take_zero]
          repeat
            (first | ((with_reducible apply QW.free rfl); · (intro W hW; have s1 := hW.par.c1; have t5 := hW.box.cell 5; go_simp; first | (go_at_call 78; refine (HRG.out _).mono ?_; exact fun e w' h => ⟨h.1, hW.below hok h.2⟩) | rfl)) | ((with_reducible apply QW.skip rfl); · (first | exact ⟨_, _, rfl, rfl, .inl rfl⟩ | exact ⟨_, _, rfl, rfl, .inr rfl⟩)) | ((with_reducible apply QW.take rfl); (· exact ⟨_, rfl, rfl⟩); (· (intro W hW; have s1 := hW.par.c1; have t5 := hW.box.cell 5; go_simp; first | (go_at_call 78; refine (HRG.out _).mono ?_; exact fun e w' h => ⟨h.1, hW.below hok h.2⟩) | rfl)))); (try simp only [Act.put, List.setIfInBounds_toArray, List.set_cons_zero, List.set_cons_succ])
          refine QW.nil ?_
          intro w3 h3
          simp only [List.drop]
          go_wp2_with fail
          refine (HMS.out _ h3.par).mono ?_
          rintro e w4 ⟨rfl, q1, q2⟩
          go_wp2
          go_ret2
          exact ⟨⟨0, rfl, fun tq ht => (by cases ht)⟩, q1, h3.keeps.trans q2⟩
      · have hlt' : ((p : Int) + (j : Int) < (c.s.size : Int)) = False := by simp; omega
        obtain rfl : j = M := by rw [← HA'.out, if_neg (fun h => hlt h.1)]
        clear HA HA' hlt hbj
        go_wp2_with fail
        refine wp_region_q (NodeC c w σ #[.int .i64 3, .int .u64 a, .int .u64 b, .int .u64 d1, .int .u64 d2, .string t, .slice A n cp]) (by kernel_rfl) (by kernel_rfl) h1.drew ?_
        repeat
          (first | ((with_reducible apply QW.free rfl); · (intro W hW; have s1 := hW.par.c1; have t5 := hW.box.cell 5; go_simp; first | rfl)) | ((with_reducible apply QW.skip rfl); · (first | exact ⟨_, _, rfl, rfl, .inl rfl⟩ | exact ⟨_, _, rfl, rfl, .inr rfl⟩)) | ((with_reducible apply QW.take rfl); (· exact ⟨_, rfl, rfl⟩); (· (intro W hW; have s1 := hW.par.c1; have t5 := hW.box.cell 5; go_simp; first | rfl)))); (try simp only [Act.put, List.setIfInBounds_toArray, List.set_cons_zero, List.set_cons_succ])
        refine QW.nil ?_
        intro w2 h2
        go_wp2_with fail
        refine wp_region_t (NodeC c w σ #[.int .i64 3, .int .u64 a, .int .u64 b, .int .u64 d1, .int .u64 d2, .string t, .slice A n cp]) 15 (by kernel_rfl) (by kernel_rfl) h2.drew ?_
        simp only [List.take_succ_cons, List.take_zero]
        repeat
          (first | ((with_reducible apply QW.free rfl); · (intro W hW; have s1 := hW.par.c1; have t5 := hW.box.cell 5; go_simp; first | (go_at_call 78; refine (HRG.out _).mono ?_; exact fun e w' h => ⟨h.1, hW.below hok h.2⟩) | rfl)) | ((with_reducible apply QW.skip rfl); · (first | exact ⟨_, _, rfl, rfl, .inl rfl⟩ | exact ⟨_, _, rfl, rfl, .inr rfl⟩)) | ((with_reducible apply QW.take rfl); (· exact ⟨_, rfl, rfl⟩); (· (intro W hW; have s1 := hW.par.c1; have t5 := hW.box.cell 5; go_simp; first | (go_at_call 78; refine (HRG.out _).mono ?_; exact fun e w' h => ⟨h.1, hW.below hok h.2⟩) | rfl)))); (try simp only [Act.put, List.setIfInBounds_toArray, List.set_cons_zero, List.set_cons_succ])
        refine QW.nil ?_
        intro w3 h3
        simp only [List.drop]
        go_wp2_with fail
        refine (HMS.out _ h3.par).mono ?_
        rintro e w4 ⟨rfl, q1, q2⟩
        go_wp2
        go_ret2
        exact ⟨⟨0, rfl, fun tq ht => (by cases ht)⟩, q1, h3.keeps.trans q2⟩
end Go.Proofs.YtndhbdbfjkmloaaGreatDoor
namespace Go.Proofs.YtndhbdbfjkmloaaGreatDoor
open Go.RowKit Go.Maps

/-- append to a row of one's own, as one step of a region that draws -/
theorem step_append_own {P : Program} {ops : Array Oper} {o : Oper} {a : Act} {w : World} {K : Act → World → Prop} {Q : Exit → Act → World → Prop} {E : Prop}
    (hg : o.guard = none) (s x : Operand) (t : TypeId) (hop : o.op = Op.call { callee := Callee.builtin Builtin.append, args := #[s, x], argTypes := #[t, t] })
    (base : Nat) (e : TypeId) (i : TypeInfo) (z : Value) (size bytes : Nat) (h1 : P.underlying t = some (.slice e)) (h2 : P.info? e = some i) (h3 : i.zero = some z) (h4 : i.size = size) (h5 : i.bytes = bytes) (h6 : z.cells.size = size) (h7 : 0 < size)
    (v : Value) (n : Nat) (xs : List Value) (hs : a.eval s = v) (hown : w.ownsRow base e size v n xs)
    (ad : Addr) (m c : Nat) (news : List Value) (hx : a.eval x = .slice (some ad) m c) (hn : news.length = m * size) (hc : ∀ j u, news[j]? = some u → w.cell? (ad.add j) = some u) (h1c : ∀ u ∈ news, u.oneCell' = true)
    (b1 : n + m ≤ maxLen) (b2 : (n + m) * bytes ≤ 140737488355328) (hb : base ≤ w.heap.size)
    (hK : ∀ v' w', w'.ownsRow base e size v' (n + m) (xs ++ news) → w.grownBy w' v.ownBlock → K (a.put o.dst v') w') :
    if Region.wanted o (yielded ops a.tmps) = true then Oper.wp P o a w K Q else E := by
  have hw : Region.wanted o (yielded ops a.tmps) = true := by simp [Region.wanted, hg]
  rw [if_pos hw]
  obtain ⟨v', w', hrun, r1, r2, _⟩ := run_append_own (P := P) w base t o.type e i z size bytes h1 h2 h3 h4 h5 h6 h7 v n xs hown ad m c news hn hc h1c b1 b2 hb
  unfold Oper.wp
  simp [execOp, hop, resolve, invoke, builtin, hs, hx, hrun, Result.andThen]
  exact hK v' w' r1 r2
theorem step_info : (Tryz.prog.info? 103).map (fun i => (i.zero, i.size, i.bytes)) = some (some (.agg #[.int .i64 0, .int .i64 0, .bool false, .int .i64 0]), 4, 32) := by kernel_rfl
theorem Keeps.grown {c : PC} {w w' : World} {lv : Value} {n : Nat} {xs : List Value} (ho : w.ownsRow c.base 103 4 lv n xs) (hg : w.grownBy w' lv.ownBlock) : Keeps c w w' :=
  ⟨hg.os, hg.tape, hg.output, hg.size, fun k h1 _ _ h4 => hg.block k h1 fun e => by
    rcases ho.2 with ⟨rfl, _⟩ | ⟨g, cap, cur, rfl, hb, hgg, _⟩
    · cases e
    · simp only [Value.ownBlock, Option.some.injEq] at e
      subst e
      rcases h4 with h4 | h4
      · omega
      · exact h4 cur (0, 0) hgg⟩
theorem Keeps.ofMap {c : PC} {w w' : World} (hg : w.grownBy w' (some c.M)) : Keeps c w w' := ⟨hg.os, hg.tape, hg.output, hg.size, fun k h1 _ h3 _ => hg.block k h1 fun e => h3.1 (by injection e)⟩

theorem new_cells (w : World) (t : TypeId) (cs : List Value) : ∀ (j : Nat) (u : Value), cs[j]? = some u → (w.alloc (.cells cs.toArray t)).cell? ((⟨w.heap.size, 0, none⟩ : Addr).add j) = some u := by
  intro j u h
  have hb : Blk (w.alloc (.cells cs.toArray t)) w.heap.size t cs.toArray := blk_at rfl
  have h1 : (⟨w.heap.size, 0, none⟩ : Addr).add j = ⟨w.heap.size, j, none⟩ := by
    cases j with
    | zero => rfl
    | succ j => simp [Addr.add]
  rw [h1, hb.cell j]
  simpa using h
theorem Par.far {c : PC} {w : World} {σ : PS} (h : Par c w σ) (hok : c.Ok) {k : Nat} {T : TypeId} {cs : Array Value} (hb : Blk w k T cs) (hT : T ≠ 103) (h1 : k ≠ c.P) (h2 : k ≠ c.M ∧ k ≠ c.ob) (h3 : c.base ≤ k) (j : Nat) (u : Value) : Par c (w.setCell ⟨k, j, none⟩ u) σ := by
  obtain ⟨⟨lv, a1, a2⟩, a3, a4, a5, a6, a7, a8⟩ := h
  have hg : w.grownBy (w.setCell ⟨k, j, none⟩ u) (some k) := ⟨rfl, rfl, rfl, by simp [World.setCell], fun q hq hne => Below.heap_setCell w ⟨k, j, none⟩ u q (by rintro rfl; exact hne rfl)⟩
  have hne : lv.ownBlock ≠ some k := fun e => by
    rcases a2.2 with ⟨rfl, _⟩ | ⟨g, cap, cur, rfl, hb', hgg, _⟩
    · cases e
    · simp only [Value.ownBlock, Option.some.injEq] at e
      subst e
      have hb2 : w.heap[g]? = some (.cells cs T (0, 0)) := hb
      rw [hgg] at hb2
      injection hb2 with hb2
      injection hb2 with e1 e2 e3
      exact hT e2.symm
  exact ⟨⟨lv, a1.grown hg (fun e => h1 (by injection e with e; exact e.symm)), a2.kept hg (.inr hne)⟩, a3.kept hg (fun e => h2.1 (by injection e with e; exact e.symm)), fun i x hi => (World.cell?_of_block (Below.heap_setCell w ⟨k, j, none⟩ u _ (by have := hok.F; simp; omega))).trans (a4 i x hi), by simpa [World.setCell] using a5, a6.on ((Below.refl _ _).setCell (by have := hok.Bb; simp; omega) _), a7, a8.keep fun q hh _ hq => Below.heap_setCell w ⟨k, j, none⟩ u q (by have := hok.bx hh; have := hok.M; show q ≠ k; omega)⟩
theorem Keeps.far {c : PC} {w W : World} (h : Keeps c w W) {k : Nat} (hk : w.heap.size ≤ k) (j : Nat) (u : Value) : Keeps c w (W.setCell ⟨k, j, none⟩ u) :=
  ⟨h.os, h.tape, h.output, by simpa [World.setCell] using h.size, fun q h1 h2 h3 h4 => (Below.heap_setCell W ⟨k, j, none⟩ u q (by simp; omega)).trans (h.blk q h1 h2 h3 h4)⟩
theorem grown_past {w w' : World} {o : Obj} {r : Option Nat} (h : (w.alloc o).drew.grownBy w' r) : w.grownBy w' r :=
  ⟨h.os, h.tape, h.output, Nat.le_trans (by simp) h.size, fun k hk hne => (h.block k (by simp; omega) hne).trans (Below.heap_alloc w o k hk)⟩
theorem outC_V (o : Option Nat) : outV o = .agg (outC o).toArray := by cases o <;> rfl
theorem recall_none {l : List ((Nat × Nat) × Option Nat)} {k : Nat × Nat} (h : recall l k = none) : k ∉ l.map (·.1) := by
  intro hk
  obtain ⟨x, hx, rfl⟩ := List.mem_map.1 hk
  unfold recall at h
  rw [Option.map_eq_none_iff, List.find?_eq_none] at h
  exact h x hx (by simp)
/-- what a call of Rule leaves -/
def RuleQ (c : PC) (p : Nat) (w : World) (r : Option Nat × PS) (e : Ending) (w' : World) : Prop := (∃ o, e = .returned (outV o) ∧ r.1 = o.map (p + ·)) ∧ Par c w' r.2 ∧ Keeps c w w'
def DoesRule (c : PC) (m : Nat) : Prop := ∀ (i p : Nat) (σ : PS) (r : Option Nat × PS) (w : World), pk c.g c.s.data.toList c.hk m (.rule i) p σ = some r → i < c.g.length → p ≤ c.s.data.toList.length → Bound c.s.data.toList.length σ → Par c w σ →
  Calls Tryz.prog 26 #[.pointer (some ⟨c.P, 0, none⟩), .int .i64 i, .int .i64 p] w (RuleQ c p w r)
/-- where the walk of Rule stands -/
structure RuleC (c : PC) (w : World) (σ : PS) (i p : Nat) (W : World) : Prop where
  par : Par c W σ
  keeps : Keeps c w W
  res : Blk W w.heap.size 49 #[.bool false, .int .i64 0]
  key : Blk W (w.heap.size + 1) 98 #[.int .i64 i, .int .i64 p]
theorem RuleC.drew {c : PC} {w W : World} {σ : PS} {i p : Nat} (h : RuleC c w σ i p W) : RuleC c w σ i p W.drew := ⟨h.par.drew, h.keeps.drew, h.res.drew, h.key.drew⟩

theorem RuleC.past {c : PC} {w W W' : World} {σ σ' : PS} {i p : Nat} (h : RuleC c w σ i p W) (hok : c.Ok) (hw : c.base ≤ w.heap.size) (hp : Par c W' σ') (hk : Keeps c W W') : RuleC c w σ' i p W' :=
  ⟨hp, h.keeps.trans hk, hk.box h.res (by decide) (by have := hok.P; omega) (by have := hok.M; omega), hk.box h.key (by decide) (by have := hok.P; omega) (by have := hok.M; omega)⟩

set_option maxRecDepth 100000 in
set_option maxHeartbeats 8000000 in
theorem rule_hit {c : PC} (hok : c.Ok) (i p : Nat) (hi : i ≤ big) (hp : p ≤ big) {σ : PS} (o : Option Nat) (ho : recall σ.seen (i, p) = some o) (w : World) (h : Par c w σ) :
    Calls Tryz.prog 26 #[.pointer (some ⟨c.P, 0, none⟩), .int .i64 i, .int .i64 p] w (fun e w' => e = .returned (outV o) ∧ Par c w' σ ∧ Keeps c w w') := by
  have hsz := h.size
  have hbP := hok.P
  have hPl : c.P < w.heap.size := by omega
  have h3 : Par c (((w.alloc (.cells #[.bool false, .int .i64 0] 49)).alloc (.cells #[.int .i64 i, .int .i64 p] 98)).alloc (.cells #[.bool false, .int .i64 0] 49)).drew σ := (((h.alloc hok _).alloc hok _).alloc hok _).drew
  have h2 : Par c ((w.alloc (.cells #[.bool false, .int .i64 0] 49)).alloc (.cells #[.int .i64 i, .int .i64 p] 98)).drew σ := ((h.alloc hok _).alloc hok _).drew
  have s2 := h3.c2
  have s2' := h2.c2
  have s20 := h.c2
  have hlk := h3.memo.look hi hp
  have hlk2 := h2.memo.look hi hp
  rw [ho] at hlk hlk2
  obtain ⟨b, n, hbn⟩ : ∃ (b : Bool) (n : Int), outV o = .agg #[.bool b, .int .i64 n] := by cases o <;> exact ⟨_, _, rfl⟩
  simp only [Option.getD_some, Option.isSome_some, hbn] at hlk hlk2
  rw [hbn]
  have hfin : ∀ O3 : Obj, Par c (((w.alloc (.cells #[.bool b, .int .i64 n] 49)).alloc (.cells #[.int .i64 i, .int .i64 p] 98)).alloc O3).drew σ := fun O3 => (((h.alloc hok _).alloc hok _).alloc hok _).drew
  have hfk : ∀ O3 : Obj, Keeps c w (((w.alloc (.cells #[.bool b, .int .i64 n] 49)).alloc (.cells #[.int .i64 i, .int .i64 p] 98)).alloc O3).drew := fun O3 => ((((Keeps.refl c w).alloc _).alloc _).alloc _).drew
  have HF := Lib.hid hfin
  have HK := Lib.hid hfk
  clear hfin hfk h ho hbn
  go_enter Tryz.func26, Tryz.ntmps26
  go_wp2_with fail
  go_region
  all_goals
    go_wp2
    exact bodyPost_ret (v := .agg #[.bool b, .int .i64 n]) (by simp [results, Tryz.results26, go_sem]) rfl ⟨rfl, HF.out _, HK.out _⟩

set_option maxRecDepth 100000 in
set_option maxHeartbeats 8000000 in
theorem rule_new {c : PC} (hok : c.Ok) (i p z : Nat) (hi : i < c.g.length) (hg : c.g.length ≤ 1000) (hp : p ≤ c.s.data.toList.length) (hl : c.s.data.toList.length ≤ 1000) {σ σ1 : PS} (o : Option Nat) (ho : recall σ.seen (i, p) = none) (ho1 : recall σ1.seen (i, p) = none)
    (hz : ∀ q, o = some q → z = q ∧ p ≤ q) (hzl : z ≤ 1000)
    (hcall : ∀ (r : Rl) (cs : List Value) (W : World), c.g[i]? = some r → ExIs W c.B r.2 cs → Par c W σ → Calls Tryz.prog 43 #[.pointer (some ⟨c.P, 0, none⟩), .agg cs.toArray, .int .i64 (firstN c.g i : Nat), .int .i64 p] W (Went c W (o, σ1)))
    (w : World) (h : Par c w σ) :
    Calls Tryz.prog 26 #[.pointer (some ⟨c.P, 0, none⟩), .int .i64 i, .int .i64 p] w (fun e w' => e = .returned (outV (o.map (· - p))) ∧
      Par c w' { σ1 with seen := σ1.seen ++ [((i, p), o.map (· - p))], log := σ1.log ++ [(i, p, o.map (· - p))] } ∧ Keeps c w w') := by
  have hsz := h.size
  have hbP := hok.P
  have hPl : c.P < w.heap.size := by omega
  have hlen := hok.len
  have hfst := hok.fst i hi
  have hib : i ≤ big := by unfold big; omega
  have hpb : p ≤ big := by unfold big; omega
  have h3 : Par c (((w.alloc (.cells #[.bool false, .int .i64 0] 49)).alloc (.cells #[.int .i64 i, .int .i64 p] 98)).alloc (.cells #[.bool false, .int .i64 0] 49)).drew σ := (((h.alloc hok _).alloc hok _).alloc hok _).drew
  have k3 : Keeps c w (((w.alloc (.cells #[.bool false, .int .i64 0] 49)).alloc (.cells #[.int .i64 i, .int .i64 p] 98)).alloc (.cells #[.bool false, .int .i64 0] 49)).drew := ((((Keeps.refl c w).alloc _).alloc _).alloc _).drew
  have h2 : Par c ((w.alloc (.cells #[.bool false, .int .i64 0] 49)).alloc (.cells #[.int .i64 i, .int .i64 p] 98)).drew σ := ((h.alloc hok _).alloc hok _).drew
  have s2 := h3.c2
  have s2' := h2.c2
  have s20 := h.c2
  have hlk := h3.memo.look hib hpb
  have hlk2 := h2.memo.look hib hpb
  rw [ho] at hlk hlk2
  have hov : outV none = .agg #[.bool false, .int .i64 0] := rfl
  simp only [Option.getD_none, Option.isSome_none, hov] at hlk hlk2
  have hC3 : RuleC c w σ i p (((w.alloc (.cells #[.bool false, .int .i64 0] 49)).alloc (.cells #[.int .i64 i, .int .i64 p] 98)).alloc (.cells #[.bool false, .int .i64 0] 49)).drew :=
    ⟨h3, k3, (((blk_at rfl).alloc _).alloc _).drew, ((blk_at (by simp)).alloc _).drew⟩
  have HC3 := Lib.hid hC3
  have HCALL := Lib.hid hcall
  have HO1 := Lib.hid ho1
  have HZ := Lib.hid hz
  clear hC3 k3 h ho hov hcall ho1 hz
  go_enter Tryz.func26, Tryz.ntmps26
  go_upto_region 2 with fail
  go_cut [8, 9] (fun s8 s9 wx => s8 = .pointer (some ⟨w.heap.size + 1 + 1, 0, none⟩) ∧ s9 = .bool false ∧ RuleC c w σ i p wx)
  case first =>
    go_region
    all_goals (go_wp2_with fail; go_meet; exact ⟨rfl, rfl, HC3.out⟩)
  case rest =>
  obtain ⟨rfl, rfl, hC⟩ := hcut
  clear s2 s2' s20 hlk hlk2 h3 h2 HC3
  obtain ⟨ad, nm, k', a', b', c', d', t', ks', A', cp', hA, hab, hej, hnm, hE, ⟨e0, e1, e2, e3, e4, e5, e6, e7⟩⟩ := hC.par.gram.rule hi
  have s0 := hC.par.c0
  rw [hA, hlen] at s0
  have s10 := hC.par.c10
  rw [hlen] at s10
  have sf := hC.par.first i _ hfst
  have hcl := HCALL.out _ _ wc.drew hej (hE.on ((Below.refl _ _).drew)) hC.par.drew
  unfold exCells at hcl
  have HCL := Lib.hid hcl
  have hi1 : (i : Int) < (c.g.length : Int) := by omega
  have hi0 : (0 : Int) ≤ (i : Int) := by omega
  have hkc := hC.keeps
  have hrs := hC.res
  have hky := hC.key
  have hzw := hC.keeps.size
  have hbM := hok.M
  have HW := Lib.hid hC
  clear hC hcl hE hej HCALL
  go_upto_region 5 with fail
  go_cut [10, 11] (fun s10 s11 wx => ∃ zz : Int, s10 = .int .i64 zz ∧ s11 = .bool o.isSome ∧ (o.isSome = true → zz = z) ∧ RuleC c w σ1 i p wx)
  case first =>
    go_region_with (go_at_call 43; refine HCL.out.mono ?_; rintro e w2 ⟨⟨zz, rfl, hzz⟩, q1, q2⟩)
    all_goals (go_wp2_with fail; go_meet)
    all_goals exact ⟨zz, rfl, rfl, fun hs => (by
      obtain ⟨q, hq⟩ := Option.isSome_iff_exists.1 hs
      rw [hzz q hq, (HZ.out q hq).1]), HW.out.past hok hsz q1 ((Keeps.refl c wc).drew.trans q2)⟩
  case rest =>
  obtain ⟨zz, rfl, rfl, hzz, hC⟩ := hcut
  clear e0 e1 e2 e3 e4 e5 e6 e7 s0 s10 sf HCL HW hkc hrs hky hzw
  have hzw := hC.keeps.size
  obtain ⟨N, hN⟩ : ∃ N : Int, N = ((o.map (· - p)).getD 0 : Nat) := ⟨_, rfl⟩
  have hNb : 0 ≤ N ∧ N ≤ 1000 := by
    rw [hN]
    cases o with
    | none => exact ⟨by simp, by simp⟩
    | some q => have := HZ.out q rfl; simp; omega
  have hsub : o.isSome = true → zz - (p : Int) = N := fun hs => by
    obtain ⟨q, hq⟩ := Option.isSome_iff_exists.1 hs
    have h1 := HZ.out q hq
    rw [hN, hq, hzz hs, Option.map_some, Option.getD_some]
    omega
  have HO : Hid (outV (o.map (· - p)) = .agg #[.bool o.isSome, .int .i64 N]) := by
    show _ = _
    rw [hN]
    cases o <;> rfl
  have hno : o.isSome = false → N = 0 := fun hs => by
    rw [hN]
    cases o with
    | none => rfl
    | some q => cases hs
  clear hN hzz HZ
  generalize hob : o.isSome = ob at hsub HO hno
  clear hob
  obtain ⟨bo, hbo⟩ : ∃ bo : Nat, bo = wc.heap.size := ⟨_, rfl⟩
  have HBO := Lib.hid hbo
  have hbo1 : w.heap.size + 1 < bo := by have := hC.key.lt; omega
  clear hbo
  go_upto_if 51 with fail
  go_cut [] (fun wx => RuleC c w σ1 i p wx ∧ Blk wx wc.heap.size 49 #[.bool ob, .int .i64 N] ∧ wc.heap.size < wx.heap.size)
  case first =>
    have hq0 := hC.past hok hsz (hC.par.alloc hok (.cells #[.bool ob, .int .i64 N] 49)) ((Keeps.refl c wc).alloc _)
    cases ob with
    | true =>
      have hs : (zz - (p : Int)) = N := hsub rfl
      have hwr : IntKind.i64.wrap (zz - (p : Int)) = N := by rw [hs]; exact wrap_i64 _ (by omega) (by omega)
      go_wp2_with fail
      go_meet
      exact ⟨hq0, blk_at rfl, by simp⟩
    | false =>
      obtain rfl := hno rfl
      go_wp2_with fail
      go_meet
      exact ⟨hq0, blk_at rfl, by simp⟩
  case rest =>
  clear hsub hno hC hzw
  obtain ⟨hC1, hbx, hlt⟩ := hcut
  rw [← HBO.out] at hbx hlt ⊢
  clear HBO
  have hbP1 : bo ≠ c.P := by omega
  have hbM1 : bo ≠ c.M := by omega
  obtain ⟨i0, hi0', hi1'⟩ := Option.map_eq_some_iff.1 step_info
  simp only [Prod.mk.injEq] at hi1'
  obtain ⟨hz0, hz1, hz2⟩ := hi1'
  go_wp2_with fail
  refine wp_region_t (fun W => RuleC c w σ1 i p W ∧ Blk W bo 49 #[.bool ob, .int .i64 N]) 6 (by kernel_rfl) (by kernel_rfl) ⟨hC1.drew, hbx.drew⟩ ?_
  simp only [List.take_succ_cons, List.take_zero]
  repeat
    (first | ((with_reducible apply QW.free rfl); · (intro W hW; obtain ⟨q1, q2⟩ := hW; have s2 := q1.par.c2; have t0 := q1.key.cell 0; have t1 := q1.key.cell 1; have r0 := q2.cell 0; have r1 := q2.cell 1; go_simp; first | rfl)) | ((with_reducible apply QW.skip rfl); · (first | exact ⟨_, _, rfl, rfl, .inl rfl⟩ | exact ⟨_, _, rfl, rfl, .inr rfl⟩)) | ((with_reducible apply QW.take rfl); (· exact ⟨_, rfl, rfl⟩); (· (intro W hW; obtain ⟨q1, q2⟩ := hW; have s2 := q1.par.c2; have t0 := q1.key.cell 0; have t1 := q1.key.cell 1; have r0 := q2.cell 0; have r1 := q2.cell 1; go_simp; first | rfl)))); (try simp only [Act.put, List.setIfInBounds_toArray, List.set_cons_zero, List.set_cons_succ])
  refine QW.nil ?_
  rintro w2 ⟨hC2, hbx2⟩
  have htl := hC2.par.tight.len
  have hmul : c.g.length * (c.s.data.toList.length + 1) ≤ 1000 * 1001 := Nat.mul_le_mul hg (by omega)
  have hll := hC2.par.tight.log_len
  obtain ⟨w3, hrun, hmem, hgr⟩ := hC2.par.memo.put (by unfold maxLen; omega) hib hpb HO1.out (o.map (· - p))
  rw [HO.out] at hrun
  obtain ⟨lv, hP, hlog⟩ := hC2.par.par
  have hP3 := hP.grown hgr (fun e => hok.ne3.1 (by injection e with e; exact e.symm))
  have hlog3 := hlog.kept hgr (by
    cases hv : lv.ownBlock with
    | none => exact .inl rfl
    | some k => exact .inr (fun e => by injection e with e; have := (hlog.lt k hv).1; omega))
  have hres3 := hC2.res.grown hgr (by simp; omega)
  have hbx3 := hbx2.grown hgr (by simp; exact hbM1)
  have hk3 : Keeps c w w3 := hC2.keeps.trans (Keeps.ofMap hgr)
  have hf3 : ∀ j x, c.firsts[j]? = some x → w3.cell? ⟨c.F, j, none⟩ = some (.int .i64 (x : Nat)) := fun j x hj => by
    rw [← hC2.par.first j x hj]
    exact World.cell?_of_block (hgr.block _ (by have := hok.F; have := hC2.par.size; simp; omega) (fun e => hok.ne2.1 (by injection e)))
  have hg3 := hC2.par.gram.on (⟨hgr.os, hgr.tape, hgr.output, hgr.size, fun k hk => hgr.block k (by have := hok.Bb; have := hC2.par.size; omega) (fun e => by injection e with e; have := hok.BM; omega)⟩ : Below c.B w2 w3)
  have hlb : σ1.log.length ≤ 1001000 := by omega
  have hnb : ∀ k, k < c.base → some k ≠ lv.ownBlock := fun k hk e => by have := (hlog.lt k e.symm).1; omega
  have hsz3 : c.base ≤ w3.heap.size := Nat.le_trans hC2.par.size hgr.size
  have htight := hC2.par.tight
  have hmk3 : MkOk c w3 σ1.marks := hC2.par.marks.keep fun k hh hk he => hgr.block k hk (fun e => by injection e with e; have := hok.bx hh; omega)
  have hlt3 : bo < w3.heap.size := hbx3.lt
  have hP3l : c.P < w3.heap.size := hP3.lt
  have hR3l : w.heap.size < w3.heap.size := hres3.lt
  have hRP : w.heap.size ≠ c.P := by omega
  have s3 : w3.cell? ⟨c.P, 3, none⟩ = some lv := hP3.cell 3
  have f3 : w3.frozen? ⟨c.P, 3, none⟩ = false := hP3.frozen 3
  have t0 : w3.cell? ⟨bo, 0, none⟩ = some (.bool ob) := hbx3.cell 0
  have t1 : w3.cell? ⟨bo, 1, none⟩ = some (.int .i64 N) := hbx3.cell 1
  have HM := Lib.hid hmem
  have HL := Lib.hid hlog3
  have HP3 := Lib.hid hP3
  have HR3 := Lib.hid hres3
  have HB3 := Lib.hid hbx3
  have HK3 := Lib.hid hk3
  have HF3 := Lib.hid hf3
  have HG3 := Lib.hid hg3
  have HT := Lib.hid htight
  have HMK := Lib.hid hmk3
  clear hll hC1 hbx hlt hC2 hbx2 hmem hlog hlog3 hP hP3 hres3 hbx3 hk3 hf3 hg3 htight hmk3 htl hgr
  simp only [List.drop]
  go_upto_region 10 with fail
  clear hrun
  go_cut [] (fun wx => Par c wx { σ1 with seen := σ1.seen ++ [((i, p), o.map (· - p))], log := σ1.log ++ [(i, p, o.map (· - p))] } ∧ Keeps c w wx ∧ Blk wx w.heap.size 49 #[.bool false, .int .i64 0] ∧ Blk wx bo 49 #[.bool ob, .int .i64 N])
  case first =>
    go_region_law (refine step_append_own rfl (.tmp 66) (.tmp 71) 50 rfl c.base 103 i0 _ 4 32 Tryz.underlying50 hi0' hz0 hz1 hz2 rfl (by decide) lv σ1.log.length _ (by simp [Act.eval]) (HL.out.alloc _) ⟨w3.heap.size, 0, none⟩ 1 1 [.int .i64 i, .int .i64 p, .bool ob, .int .i64 N] (by simp [Act.eval]) rfl (new_cells _ _ _) (by simp [Value.oneCell']) (by unfold maxLen; omega) (by omega) (by simp; omega) ?_; intro v' w4 hown4 hgr4; obtain ⟨gg, cap', rfl⟩ := Joins.ownsRow_form hown4 (by omega); have hP4 := HP3.out.grown (grown_past hgr4) (hnb _ hbP); have s4 : w4.cell? ⟨c.P, 3, none⟩ = some lv := hP4.cell 3; have f4 := hP4.frozen 3)
    all_goals
      have hK4 : Keeps c (w3.alloc (.cells #[.int .i64 i, .int .i64 p, .bool ob, .int .i64 N] 103)).drew w4 := Keeps.grown (HL.out.alloc _) hgr4
      have hR4 := hK4.box (HR3.out.alloc _).drew (by decide) (by omega) (by omega)
      have hB4 := hK4.box (HB3.out.alloc _).drew (by decide) (by omega) (by omega)
      have hK5 : Keeps c w w4 := HK3.out.trans (((Keeps.refl c w3).alloc _).drew.trans hK4)
      have hG4 : w3.grownBy w4 lv.ownBlock := grown_past hgr4
      have hgp : w4.grownBy (w4.setCell ⟨c.P, 3, none⟩ (.slice (some ⟨gg, 0, none⟩) (σ1.log.length + 1) cap')) (some c.P) := ⟨rfl, rfl, rfl, by simp [World.setCell], fun q hq hne => Below.heap_setCell w4 ⟨c.P, 3, none⟩ _ q (by rintro rfl; exact hne rfl)⟩
      have hst : (σ1.log ++ [(i, p, o.map (· - p))]).flatMap stepC = σ1.log.flatMap stepC ++ [.int .i64 i, .int .i64 p, .bool ob, .int .i64 N] := by
        have h1 := HO.out
        rw [outC_V] at h1
        injection h1 with h1
        have h2 : outC (o.map (· - p)) = [.bool ob, .int .i64 N] := by have := congrArg Array.toList h1; simpa using this
        rw [List.flatMap_append, List.flatMap_cons, List.flatMap_nil, List.append_nil, stepC]
        simp only [h2]
      go_wp2_with fail
      go_meet
      refine ⟨⟨⟨.slice (some ⟨gg, 0, none⟩) (σ1.log.length + 1) cap', hP4.set_ 3 _, ?_⟩, ?_, fun j x hj => ?_, ?_, ?_, ?_, ?_⟩, ?_, hR4.far (by simp; omega) _, hB4.far (by simp; omega) _⟩
      · show World.ownsRow _ c.base 103 4 _ (σ1.log ++ [(i, p, o.map (· - p))]).length ((σ1.log ++ [(i, p, o.map (· - p))]).flatMap stepC)
        rw [hst, List.length_append]
        exact hown4.kept hgp (.inr (fun e => by have := (hown4.lt gg rfl).1; simp only [Value.ownBlock, Option.some.injEq] at e; omega))
      · exact (HM.out.kept hG4 (hnb _ hbM.1)).kept hgp (fun e => hok.ne3.1 (by injection e))
      · rw [← HF3.out j x hj]
        exact (World.cell?_of_block (hgp.block _ (by have := hok.F; have := hG4.size; simp; omega) (fun e => hok.ne1 (by injection e)))).trans (World.cell?_of_block (hG4.block _ (by have := hok.F; simp; omega) (hnb _ hok.F)))
      · have := hG4.size
        have := hgp.size
        omega
      · exact (HG3.out.on (⟨hG4.os, hG4.tape, hG4.output, hG4.size, fun k hk => hG4.block k (by have := hok.Bb; omega) (hnb k (by have := hok.Bb; omega))⟩ : Below c.B w3 w4)).on ((Below.refl _ _).setCell hok.BP _)
      · exact ⟨by
          simp only [List.map_append, List.map_cons, List.map_nil]
          rw [List.nodup_append]
          refine ⟨HT.out.nodup, by simp, ?_⟩
          intro a ha b hb hab
          simp only [List.mem_singleton] at hb
          subst hab
          subst hb
          exact recall_none HO1.out ha, by
          intro k hk
          simp only [List.map_append, List.map_cons, List.map_nil, List.mem_append, List.mem_singleton] at hk
          rcases hk with hk | rfl
          · exact HT.out.inn k hk
          · exact ⟨hi, hp⟩, by simp [HT.out.log]⟩
      · exact HMK.out.keep fun k hh hk he => (hgp.block k (by have := hG4.size; omega) (fun e => by injection e with e; have := hok.bx hh; have := hok.ne3; omega)).trans (hG4.block k hk (hnb k (by have := hok.bx hh; omega)))
      · exact hK5.trans ⟨rfl, rfl, rfl, by simp [World.setCell], fun k _ hk _ _ => Below.heap_setCell w4 ⟨c.P, 3, none⟩ _ k hk⟩
  case rest =>
  obtain ⟨hq1, hq2, hq3, hq4⟩ := hcut
  have yz0 : wc.cell? ⟨w.heap.size, 0, none⟩ = some (.bool false) := hq3.cell 0; have yz1 : wc.cell? ⟨w.heap.size, 1, none⟩ = some (.int .i64 0) := hq3.cell 1; have yf0 := hq3.frozen 0; have yf1 := hq3.frozen 1; have ye0 : (wc.setCell ⟨w.heap.size, 0, none⟩ (.bool ob)).cell? ⟨w.heap.size, 0, none⟩ = some (.bool ob) := (hq3.set_ 0 _).cell 0; have ye1 : ((wc.setCell ⟨w.heap.size, 0, none⟩ (.bool ob)).setCell ⟨w.heap.size, 1, none⟩ (.int .i64 N)).cell? ⟨w.heap.size, 1, none⟩ = some (.int .i64 N) := ((hq3.set_ 0 _).set_ 1 _).cell 1
  have t0 : wc.cell? ⟨bo, 0, none⟩ = some (.bool ob) := hq4.cell 0
  have t1 : wc.cell? ⟨bo, 1, none⟩ = some (.int .i64 N) := hq4.cell 1
  have hne5 : w.heap.size ≠ c.M ∧ w.heap.size ≠ c.ob := by omega
  have hA1 := hq1.far hok hq3 (by decide) hRP hne5 (by omega) 0 (.bool ob)
  have hA2 := hA1.far hok (hq3.set_ 0 (.bool ob)) (by decide) hRP hne5 (by omega) 1 (.int .i64 N)
  have hA3 := (hq2.far (Nat.le_refl _) 0 (.bool ob)).far (Nat.le_refl _) 1 (.int .i64 N)
  have HA2 := Lib.hid hA2
  have HA3 := Lib.hid hA3
  clear hq1 hq2 hA1 hA2 hA3 HM HL HP3 HR3 HB3 HK3 HF3 HG3 HT
  go_wp2
  exact bodyPost_ret (v := .agg #[.bool ob, .int .i64 N]) (by simp [results, Tryz.results26, go_sem, ye0, ye1]) rfl ⟨by rw [HO.out], HA2.out, HA3.out⟩
end Go.Proofs.YtndhbdbfjkmloaaGreatDoor
