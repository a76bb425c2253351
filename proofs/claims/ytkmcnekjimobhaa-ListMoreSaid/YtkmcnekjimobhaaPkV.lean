/- (*Parser).node: what has no kids. -/
import Derived.Test.YtkmcnekjimobhaaPkP
namespace Go.Proofs.Ytkmcnekjimobhaa
open Go.RowKit Go.Maps

theorem wrap_i64 (n : Int) (h1 : -9223372036854775808 ≤ n) (h2 : n ≤ 9223372036854775807) : IntKind.i64.wrap n = n := by
  unfold IntKind.wrap IntKind.signed IntKind.bits
  simp
  omega
/-- where a node's walk stands: the parser, all that was, the node's own cells -/
structure NodeC (c : PC) (w : World) (σ : PS) (bc : Array Value) (W : World) : Prop where
  par : Par c W σ
  keeps : Keeps c w W
  box : Blk W w.heap.size 37 bc
section
variable {c : PC} {w W W' : World} {σ : PS} {bc : Array Value}
theorem NodeC.drew (h : NodeC c w σ bc W) : NodeC c w σ bc W.drew := ⟨h.par.drew, h.keeps.drew, h.box.drew⟩
theorem NodeC.below (h : NodeC c w σ bc W) (hok : c.Ok) (hb : Below W.heap.size W W') : NodeC c w σ bc W' := ⟨h.par.below hok hb, h.keeps.trans (Keeps.of_below hb), h.box.below hb h.box.lt⟩
theorem NodeC.start (h : Par c w σ) (hok : c.Ok) (bc : Array Value) : NodeC c w σ bc (w.alloc (.cells bc 37)) :=
  ⟨h.alloc hok _, (Keeps.refl c w).alloc _, blk_at rfl⟩
theorem NodeC.past (h : NodeC c w σ bc W) (hok : c.Ok) (hw : c.base ≤ w.heap.size) {σ' : PS} (hp : Par c W' σ') (hk : Keeps c W W') : NodeC c w σ' bc W' :=
  ⟨hp, h.keeps.trans hk, hk.box h.box (by decide) (by have := hok.P; omega) (by have := hok.M; omega)⟩
end

set_option maxRecDepth 100000 in
set_option maxHeartbeats 4000000 in
theorem node_empty {c : PC} (hok : c.Ok) {σ : PS} (a b d1 d2 : Int) (t : ByteArray) (A : Option Addr) (n cp num p : Nat) (w : World) (h : Par c w σ) :
    Calls Try.prog 111 #[.pointer (some ⟨c.P, 0, none⟩), .agg #[.int .i64 1, .int .u64 a, .int .u64 b, .int .u64 d1, .int .u64 d2, .string t, .slice A n cp], .int .i64 num, .int .i64 p] w (Went c w (some p, σ)) := by
  have hN := NodeC.start h hok #[.int .i64 1, .int .u64 a, .int .u64 b, .int .u64 d1, .int .u64 d2, .string t, .slice A n cp]
  go_enter Try.func111, Try.ntmps111
  go_wp2
  go_ret2
  exact ⟨⟨p, rfl, fun to ht => by injection ht with ht; rw [ht]⟩, hN.par, hN.keeps⟩

set_option maxRecDepth 100000 in
set_option maxHeartbeats 4000000 in
theorem node_set {c : PC} (hok : c.Ok) {σ : PS} (a b d1 d2 : Nat) (ha : a < 18446744073709551616) (hb : b < 18446744073709551616) (hc : d1 < 18446744073709551616) (hd : d2 < 18446744073709551616) (t : ByteArray) (A : Option Addr) (n cp num p : Nat) (hp : p ≤ c.s.data.toList.length) (hl : c.s.data.toList.length ≤ big) (w : World) (h : Par c w σ) :
    Calls Try.prog 111 #[.pointer (some ⟨c.P, 0, none⟩), .agg #[.int .i64 2, .int .u64 a, .int .u64 b, .int .u64 d1, .int .u64 d2, .string t, .slice A n cp], .int .i64 num, .int .i64 p] w
      (Went c w (if p < c.s.data.toList.length ∧ hasE a b d1 d2 (bt c.s.data.toList p) = true then (some (p + 1), σ) else (none, missS σ p ⟨a, b, d1, d2⟩))) := by
  have hN := NodeC.start h hok #[.int .i64 2, .int .u64 a, .int .u64 b, .int .u64 d1, .int .u64 d2, .string t, .slice A n cp]
  have hsz := h.size
  have hlen : c.s.data.toList.length = c.s.size := size_list _
  rw [hlen] at hp hl ⊢
  unfold big at hl
  have hms := fun W (q : Par c W σ) => miss_any hok p ⟨a, b, d1, d2⟩ W q
  have HM := Lib.hid hms
  have hwd : Words [a, b, d1, d2] := fun i => by
    match i with
    | 0 => exact ha
    | 1 => exact hb
    | 2 => exact hc
    | 3 => exact hd
    | i + 4 => simp
  clear hms ha hb hc hd hlen
  by_cases hlt : p < c.s.size
  · have hbt := bt_of hlt
    have hh := has_any [a, b, d1, d2] hwd (bt c.s.data.toList p) (bt_lt _ _)
    unfold vals at hh
    have HX : Hid (hasE a b d1 d2 (bt c.s.data.toList p) = hasN [a, b, d1, d2] (bt c.s.data.toList p)) := by
      show _ = _
      unfold hasE
      simp only [Int.toNat_natCast]
    generalize hasN [a, b, d1, d2] (bt c.s.data.toList p) = x at hh HX
    rw [HX.out]
    have hlt' : (p : Int) < (c.s.size : Int) := by omega
    clear HX hwd
    generalize bt c.s.data.toList p = y at hbt hh
    cases x with
    | true =>
      rw [if_pos ⟨hlt, rfl⟩]
      have HH := Lib.hid hh; clear hh
      go_enter Try.func111, Try.ntmps111
      go_wp2_with fail
      refine wp_region_q (NodeC c w σ #[.int .i64 2, .int .u64 a, .int .u64 b, .int .u64 d1, .int .u64 d2, .string t, .slice A n cp]) (by kernel_rfl) (by kernel_rfl) hN.drew ?_
      repeat
        (first | ((with_reducible apply QW.free rfl); · (intro W hW; have s1 := hW.par.c1; have t1 := hW.box.cell 1; have t2 := hW.box.cell 2; have t3 := hW.box.cell 3; have t4 := hW.box.cell 4; go_simp; first | rfl | (go_at_call 85; refine (HH.out _).mono ?_; exact fun e w' h => ⟨h.1, hW.below hok h.2⟩))) | ((with_reducible apply QW.skip rfl); · (first | exact ⟨_, _, rfl, rfl, .inl rfl⟩ | exact ⟨_, _, rfl, rfl, .inr rfl⟩)) | ((with_reducible apply QW.take rfl); (· exact ⟨_, rfl, rfl⟩); (· (intro W hW; have s1 := hW.par.c1; have t1 := hW.box.cell 1; have t2 := hW.box.cell 2; have t3 := hW.box.cell 3; have t4 := hW.box.cell 4; go_simp; first | rfl | (go_at_call 85; refine (HH.out _).mono ?_; exact fun e w' h => ⟨h.1, hW.below hok h.2⟩))))); (try simp only [Act.put, List.setIfInBounds_toArray, List.set_cons_zero, List.set_cons_succ])
      refine QW.nil ?_
      intro w1 h1
      go_wp2
      go_ret2
      exact ⟨⟨((p + 1 : Nat) : Int), by simp, fun to ht => by injection ht with ht; rw [ht]⟩, h1.par, h1.keeps⟩
    | false =>
      rw [if_neg (by simp)]
      have HH := Lib.hid hh; clear hh
      go_enter Try.func111, Try.ntmps111
      go_wp2_with fail
      refine wp_region_q (NodeC c w σ #[.int .i64 2, .int .u64 a, .int .u64 b, .int .u64 d1, .int .u64 d2, .string t, .slice A n cp]) (by kernel_rfl) (by kernel_rfl) hN.drew ?_
      repeat
        (first | ((with_reducible apply QW.free rfl); · (intro W hW; have s1 := hW.par.c1; have t1 := hW.box.cell 1; have t2 := hW.box.cell 2; have t3 := hW.box.cell 3; have t4 := hW.box.cell 4; go_simp; first | rfl | (go_at_call 85; refine (HH.out _).mono ?_; exact fun e w' h => ⟨h.1, hW.below hok h.2⟩))) | ((with_reducible apply QW.skip rfl); · (first | exact ⟨_, _, rfl, rfl, .inl rfl⟩ | exact ⟨_, _, rfl, rfl, .inr rfl⟩)) | ((with_reducible apply QW.take rfl); (· exact ⟨_, rfl, rfl⟩); (· (intro W hW; have s1 := hW.par.c1; have t1 := hW.box.cell 1; have t2 := hW.box.cell 2; have t3 := hW.box.cell 3; have t4 := hW.box.cell 4; go_simp; first | rfl | (go_at_call 85; refine (HH.out _).mono ?_; exact fun e w' h => ⟨h.1, hW.below hok h.2⟩))))); (try simp only [Act.put, List.setIfInBounds_toArray, List.set_cons_zero, List.set_cons_succ])
      refine QW.nil ?_
      intro w1 h1
      have t1 := h1.box.cell 1
      have t2 := h1.box.cell 2
      have t3 := h1.box.cell 3
      have t4 := h1.box.cell 4
      go_wp2_with fail
      refine (HM.out _ h1.par).mono ?_
      rintro e w2 ⟨rfl, q1, q2⟩
      go_wp2
      go_ret2
      exact ⟨⟨0, rfl, fun to ht => (by cases ht)⟩, q1, h1.keeps.trans q2⟩
  · rw [if_neg (fun h => hlt h.1)]
    have hlt' : ((p : Int) < (c.s.size : Int)) = False := by simp; omega
    clear hwd hlt
    skip
    go_enter Try.func111, Try.ntmps111
    go_wp2_with fail
    refine wp_region_q (NodeC c w σ #[.int .i64 2, .int .u64 a, .int .u64 b, .int .u64 d1, .int .u64 d2, .string t, .slice A n cp]) (by kernel_rfl) (by kernel_rfl) hN.drew ?_
    repeat
      (first | ((with_reducible apply QW.free rfl); · (intro W hW; have s1 := hW.par.c1; have t1 := hW.box.cell 1; have t2 := hW.box.cell 2; have t3 := hW.box.cell 3; have t4 := hW.box.cell 4; go_simp; first | rfl | fail)) | ((with_reducible apply QW.skip rfl); · (first | exact ⟨_, _, rfl, rfl, .inl rfl⟩ | exact ⟨_, _, rfl, rfl, .inr rfl⟩)) | ((with_reducible apply QW.take rfl); (· exact ⟨_, rfl, rfl⟩); (· (intro W hW; have s1 := hW.par.c1; have t1 := hW.box.cell 1; have t2 := hW.box.cell 2; have t3 := hW.box.cell 3; have t4 := hW.box.cell 4; go_simp; first | rfl | fail)))); (try simp only [Act.put, List.setIfInBounds_toArray, List.set_cons_zero, List.set_cons_succ])
    refine QW.nil ?_
    intro w1 h1
    have t1 := h1.box.cell 1
    have t2 := h1.box.cell 2
    have t3 := h1.box.cell 3
    have t4 := h1.box.cell 4
    go_wp2_with fail
    refine (HM.out _ h1.par).mono ?_
    rintro e w2 ⟨rfl, q1, q2⟩
    go_wp2
    go_ret2
    exact ⟨⟨0, rfl, fun to ht => (by cases ht)⟩, q1, h1.keeps.trans q2⟩

theorem alike_ge (s : List UInt8) (p : Nat) (t : List UInt8) : ∀ f k, k ≤ alike s p t f k
  | 0, k => Nat.le_refl _
  | f + 1, k => by
    unfold alike
    split
    · exact Nat.le_trans (Nat.le_succ k) (alike_ge s p t f (k + 1))
    · exact Nat.le_refl _
set_option maxRecDepth 100000 in
set_option maxHeartbeats 8000000 in
theorem node_lit {c : PC} (hok : c.Ok) {σ : PS} (a b d1 d2 : Int) (t : ByteArray) (A : Option Addr) (n cp num p : Nat) (hp : p ≤ c.s.data.toList.length) (hl : c.s.data.toList.length ≤ big) (ht : t.size ≤ big) (w : World) (h : Par c w σ) :
    Calls Try.prog 111 #[.pointer (some ⟨c.P, 0, none⟩), .agg #[.int .i64 3, .int .u64 a, .int .u64 b, .int .u64 d1, .int .u64 d2, .string t, .slice A n cp], .int .i64 num, .int .i64 p] w
      (Went c w (if litAt c.s.data.toList p t.data.toList = true then (some (p + t.size), σ) else (none, missS σ (p + matchN c.s.data.toList p t.data.toList) (oneS (bt t.data.toList (matchN c.s.data.toList p t.data.toList)))))) := by
  have hN := NodeC.start h hok #[.int .i64 3, .int .u64 a, .int .u64 b, .int .u64 d1, .int .u64 d2, .string t, .slice A n cp]
  have hsz := h.size
  have hlen : c.s.data.toList.length = c.s.size := size_list _
  have htl : t.data.toList.length = t.size := size_list _
  have hmt := matchN_lt c.s.data.toList p t.data.toList
  have hpf := hasPrefix_any (c.s.extract p c.s.size) t
  have hpe : t.data.toList.isPrefixOf (c.s.extract p c.s.size).data.toList = litAt c.s.data.toList p t.data.toList := by
    rw [Lib.extract_data, ← hlen, litAt, List.take_of_length_le (by rw [List.length_drop]; exact Nat.le_refl _)]
  rw [hpe] at hpf
  rw [hlen] at hp hl hmt
  rw [htl] at hmt
  unfold big at hl ht
  clear hpe h
  cases hx : litAt c.s.data.toList p t.data.toList with
  | true =>
    rw [hx] at hpf
    rw [if_pos rfl]
    have HPF := Lib.hid hpf
    clear hmt hpf hx hlen htl
    go_enter Try.func111, Try.ntmps111
    go_wp2_with fail
    refine wp_region_q (NodeC c w σ #[.int .i64 3, .int .u64 a, .int .u64 b, .int .u64 d1, .int .u64 d2, .string t, .slice A n cp]) (by kernel_rfl) (by kernel_rfl) hN.drew ?_
    repeat
      (first | ((with_reducible apply QW.free rfl); · (intro W hW; have s1 := hW.par.c1; have t5 := hW.box.cell 5; go_simp; first | rfl | (go_at_call 89; refine (HPF.out _).mono ?_; exact fun e w' h => ⟨h.1, hW.below hok h.2⟩))) | ((with_reducible apply QW.skip rfl); · (first | exact ⟨_, _, rfl, rfl, .inl rfl⟩ | exact ⟨_, _, rfl, rfl, .inr rfl⟩)) | ((with_reducible apply QW.take rfl); (· exact ⟨_, rfl, rfl⟩); (· (intro W hW; have s1 := hW.par.c1; have t5 := hW.box.cell 5; go_simp; first | rfl | (go_at_call 89; refine (HPF.out _).mono ?_; exact fun e w' h => ⟨h.1, hW.below hok h.2⟩))))); (try simp only [Act.put, List.setIfInBounds_toArray, List.set_cons_zero, List.set_cons_succ])
    refine QW.nil ?_
    intro w1 h1
    have t5 := h1.box.cell 5
    go_wp2
    go_ret2
    exact ⟨⟨((p + t.size : Nat) : Int), by simp, fun to ht => by injection ht with ht; rw [ht]⟩, h1.par, h1.keeps⟩
  | false =>
    rw [hx] at hpf
    rw [if_neg (by simp)]
    have hmt := hmt hx hp
    have HM0 : Hid (alike c.s.data.toList p t.data.toList t.size 0 = matchN c.s.data.toList p t.data.toList) := by
      show _ = _
      rw [matchN, htl]
    generalize matchN c.s.data.toList p t.data.toList = M at HM0 hmt ⊢
    have hms := fun W (q : Par c W σ) => miss_any hok (p + M) (oneS (bt t.data.toList M)) W q
    have hbM := bt_of hmt.1
    have hrg := fun W => range_any (bt t.data.toList M) (bt t.data.toList M) W (by have := bt_lt t.data.toList M; unfold I64; omega) (by have := bt_lt t.data.toList M; unfold I64; omega) (bt t.data.toList M) 1 (by omega) (by have := bt_lt t.data.toList M; omega)
    have hwo : words (rangeL (bt t.data.toList M) 1) = #[.int .u64 (oneS (bt t.data.toList M)).a, .int .u64 (oneS (bt t.data.toList M)).b, .int .u64 (oneS (bt t.data.toList M)).c, .int .u64 (oneS (bt t.data.toList M)).d] := by
      have hl4 := rangeL_len (bt t.data.toList M) 1
      unfold words oneS
      generalize rangeL (bt t.data.toList M) 1 = l at hl4
      match l, hl4 with
      | [x0, x1, x2, x3], _ => rfl
    rw [hwo] at hrg
    generalize hy : bt t.data.toList M = y at hms hbM hrg
    have hy256 : y < 256 := by rw [← hy]; exact bt_lt _ _
    have hwy : IntKind.i64.wrap (y : Int) = (y : Int) := wrap_i64 _ (by omega) (by omega)
    have HPF := Lib.hid hpf
    have HMS := Lib.hid hms
    have HRG := Lib.hid hrg
    clear hwo hy hms hrg hpf hx hlen htl
    obtain ⟨hM1, hM2⟩ := hmt
    go_enter Try.func111, Try.ntmps111
    go_wp2_with fail
    refine wp_region_q (NodeC c w σ #[.int .i64 3, .int .u64 a, .int .u64 b, .int .u64 d1, .int .u64 d2, .string t, .slice A n cp]) (by kernel_rfl) (by kernel_rfl) hN.drew ?_
    repeat
      (first | ((with_reducible apply QW.free rfl); · (intro W hW; have s1 := hW.par.c1; have t5 := hW.box.cell 5; go_simp; first | rfl | (go_at_call 89; refine (HPF.out _).mono ?_; exact fun e w' h => ⟨h.1, hW.below hok h.2⟩))) | ((with_reducible apply QW.skip rfl); · (first | exact ⟨_, _, rfl, rfl, .inl rfl⟩ | exact ⟨_, _, rfl, rfl, .inr rfl⟩)) | ((with_reducible apply QW.take rfl); (· exact ⟨_, rfl, rfl⟩); (· (intro W hW; have s1 := hW.par.c1; have t5 := hW.box.cell 5; go_simp; first | rfl | (go_at_call 89; refine (HPF.out _).mono ?_; exact fun e w' h => ⟨h.1, hW.below hok h.2⟩))))); (try simp only [Act.put, List.setIfInBounds_toArray, List.set_cons_zero, List.set_cons_succ])
    refine QW.nil ?_
    intro w1 h1
    clear hN
    go_wp2
    go_loopw [10] (fun v wr => ∃ j f : Nat, v = .int .i64 j ∧ j + f = t.size ∧ j ≤ M ∧ Hid (alike c.s.data.toList p t.data.toList f j = M) ∧ NodeC c w σ #[.int .i64 3, .int .u64 a, .int .u64 b, .int .u64 d1, .int .u64 d2, .string t, .slice A n cp] wr) (fun v _ => t.size - (intOf v).toNat)
    case atStart => exact ⟨0, t.size, rfl, by omega, by omega, HM0, h1⟩
    case round =>
      clear h1
      obtain ⟨j, f, rfl, hjf, hjM, HA, h1⟩ := hrel
      have hstep : ∃ f', f = f' + 1 := ⟨f - 1, by omega⟩
      obtain ⟨f', rfl⟩ := hstep
      have HA' : Hid ((if p + j < c.s.data.toList.length ∧ bt c.s.data.toList (p + j) = bt t.data.toList j then alike c.s.data.toList p t.data.toList f' (j + 1) else j) = M) := HA.out
      rw [size_list] at HA'
      have hjt : j < t.size := by omega
      have hbj := bt_of hjt
      have hjt' : (j : Int) < (t.size : Int) := by omega
      have hwr : IntKind.i64.wrap ((p : Int) + (j : Int)) = (p : Int) + (j : Int) := wrap_i64 _ (by omega) (by omega)
      by_cases hlt : p + j < c.s.size
      · have hbs := bt_of hlt
        have hlt' : (p : Int) + (j : Int) < (c.s.size : Int) := by omega
        have hpj0 : (0 : Int) ≤ (p : Int) + (j : Int) := by omega
        have hpjn : ((p : Int) + (j : Int)).toNat = p + j := by omega
        generalize hx1 : bt c.s.data.toList (p + j) = x1 at hbs HA'
        generalize hx2 : bt t.data.toList j = x2 at hbj HA'
        clear hx1 hx2
        by_cases heq : x1 = x2
        · subst heq
          have HB : Hid (alike c.s.data.toList p t.data.toList f' (j + 1) = M) := by
            show _ = _
            rw [← HA'.out, if_pos ⟨hlt, rfl⟩]
          have hge : j + 1 ≤ M := by rw [← HB.out]; exact alike_ge _ _ _ _ _
          clear HA HA'
          go_wp2_with fail
          refine wp_region_q (NodeC c w σ #[.int .i64 3, .int .u64 a, .int .u64 b, .int .u64 d1, .int .u64 d2, .string t, .slice A n cp]) (by kernel_rfl) (by kernel_rfl) h1.drew ?_
          repeat
            (first | ((with_reducible apply QW.free rfl); · (intro W hW; have s1 := hW.par.c1; have t5 := hW.box.cell 5; go_simp; first | rfl)) | ((with_reducible apply QW.skip rfl); · (first | exact ⟨_, _, rfl, rfl, .inl rfl⟩ | exact ⟨_, _, rfl, rfl, .inr rfl⟩)) | ((with_reducible apply QW.take rfl); (· exact ⟨_, rfl, rfl⟩); (· (intro W hW; have s1 := hW.par.c1; have t5 := hW.box.cell 5; go_simp; first | rfl)))); (try simp only [Act.put, List.setIfInBounds_toArray, List.set_cons_zero, List.set_cons_succ])
          refine QW.nil ?_
          intro w2 h2
          go_wp2
          go_roundw
          case rel => exact ⟨j + 1, f', by go_num, by omega, by omega, HB, h2⟩
          case measure => simp [intOf]; omega
        · have hne : ((x1 : Int) == (x2 : Int)) = false := by rw [beq_eq_false_iff_ne]; omega
          obtain rfl : j = M := by rw [← HA'.out, if_neg (fun h => heq h.2)]
          obtain rfl : x2 = y := hbj.symm.trans hbM
          clear HA HA' heq hbM
          go_wp2_with fail
          refine wp_region_q (NodeC c w σ #[.int .i64 3, .int .u64 a, .int .u64 b, .int .u64 d1, .int .u64 d2, .string t, .slice A n cp]) (by kernel_rfl) (by kernel_rfl) h1.drew ?_
          repeat
            (first | ((with_reducible apply QW.free rfl); · (intro W hW; have s1 := hW.par.c1; have t5 := hW.box.cell 5; go_simp; first | rfl)) | ((with_reducible apply QW.skip rfl); · (first | exact ⟨_, _, rfl, rfl, .inl rfl⟩ | exact ⟨_, _, rfl, rfl, .inr rfl⟩)) | ((with_reducible apply QW.take rfl); (· exact ⟨_, rfl, rfl⟩); (· (intro W hW; have s1 := hW.par.c1; have t5 := hW.box.cell 5; go_simp; first | rfl)))); (try simp only [Act.put, List.setIfInBounds_toArray, List.set_cons_zero, List.set_cons_succ])
          refine QW.nil ?_
          intro w2 h2
          go_wp2_with fail
          refine wp_region_t (NodeC c w σ #[.int .i64 3, .int .u64 a, .int .u64 b, .int .u64 d1, .int .u64 d2, .string t, .slice A n cp]) 15 (by kernel_rfl) (by kernel_rfl) h2.drew ?_
          simp only [List.take_succ_cons, List.take_zero]
          repeat
            (first | ((with_reducible apply QW.free rfl); · (intro W hW; have s1 := hW.par.c1; have t5 := hW.box.cell 5; go_simp; first | (go_at_call 27; refine (HRG.out _).mono ?_; exact fun e w' h => ⟨h.1, hW.below hok h.2⟩) | rfl)) | ((with_reducible apply QW.skip rfl); · (first | exact ⟨_, _, rfl, rfl, .inl rfl⟩ | exact ⟨_, _, rfl, rfl, .inr rfl⟩)) | ((with_reducible apply QW.take rfl); (· exact ⟨_, rfl, rfl⟩); (· (intro W hW; have s1 := hW.par.c1; have t5 := hW.box.cell 5; go_simp; first | (go_at_call 27; refine (HRG.out _).mono ?_; exact fun e w' h => ⟨h.1, hW.below hok h.2⟩) | rfl)))); (try simp only [Act.put, List.setIfInBounds_toArray, List.set_cons_zero, List.set_cons_succ])
          refine QW.nil ?_
          intro w3 h3
          simp only [List.drop]
          go_wp2_with fail
          refine (HMS.out _ h3.par).mono ?_
          rintro e w4 ⟨rfl, q1, q2⟩
          go_wp2
          go_ret2
          exact ⟨⟨0, rfl, fun to ht => (by cases ht)⟩, q1, h3.keeps.trans q2⟩
      · have hlt' : ((p : Int) + (j : Int) < (c.s.size : Int)) = False := by simp; omega
        obtain rfl : j = M := by rw [← HA'.out, if_neg (fun h => hlt h.1)]
        clear HA HA' hlt hbj
        go_wp2_with fail
        refine wp_region_q (NodeC c w σ #[.int .i64 3, .int .u64 a, .int .u64 b, .int .u64 d1, .int .u64 d2, .string t, .slice A n cp]) (by kernel_rfl) (by kernel_rfl) h1.drew ?_
        repeat
          (first | ((with_reducible apply QW.free rfl); · (intro W hW; have s1 := hW.par.c1; have t5 := hW.box.cell 5; go_simp; first | rfl)) | ((with_reducible apply QW.skip rfl); · (first | exact ⟨_, _, rfl, rfl, .inl rfl⟩ | exact ⟨_, _, rfl, rfl, .inr rfl⟩)) | ((with_reducible apply QW.take rfl); (· exact ⟨_, rfl, rfl⟩); (· (intro W hW; have s1 := hW.par.c1; have t5 := hW.box.cell 5; go_simp; first | rfl)))); (try simp only [Act.put, List.setIfInBounds_toArray, List.set_cons_zero, List.set_cons_succ])
        refine QW.nil ?_
        intro w2 h2
        go_wp2_with fail
        refine wp_region_t (NodeC c w σ #[.int .i64 3, .int .u64 a, .int .u64 b, .int .u64 d1, .int .u64 d2, .string t, .slice A n cp]) 15 (by kernel_rfl) (by kernel_rfl) h2.drew ?_
        simp only [List.take_succ_cons, List.take_zero]
        repeat
          (first | ((with_reducible apply QW.free rfl); · (intro W hW; have s1 := hW.par.c1; have t5 := hW.box.cell 5; go_simp; first | (go_at_call 27; refine (HRG.out _).mono ?_; exact fun e w' h => ⟨h.1, hW.below hok h.2⟩) | rfl)) | ((with_reducible apply QW.skip rfl); · (first | exact ⟨_, _, rfl, rfl, .inl rfl⟩ | exact ⟨_, _, rfl, rfl, .inr rfl⟩)) | ((with_reducible apply QW.take rfl); (· exact ⟨_, rfl, rfl⟩); (· (intro W hW; have s1 := hW.par.c1; have t5 := hW.box.cell 5; go_simp; first | (go_at_call 27; refine (HRG.out _).mono ?_; exact fun e w' h => ⟨h.1, hW.below hok h.2⟩) | rfl)))); (try simp only [Act.put, List.setIfInBounds_toArray, List.set_cons_zero, List.set_cons_succ])
        refine QW.nil ?_
        intro w3 h3
        simp only [List.drop]
        go_wp2_with fail
        refine (HMS.out _ h3.par).mono ?_
        rintro e w4 ⟨rfl, q1, q2⟩
        go_wp2
        go_ret2
        exact ⟨⟨0, rfl, fun to ht => (by cases ht)⟩, q1, h3.keeps.trans q2⟩
end Go.Proofs.Ytkmcnekjimobhaa
