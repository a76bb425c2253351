/- (*runner).run of a set, of a text. -/
import Derived.Test.YtjmckmjngnmagaaMrA
namespace Go.Proofs.Ytjmckmjngnmagaa
open Go.RowKit Go.Maps

set_option maxRecDepth 100000 in
set_option maxHeartbeats 8000000 in
theorem mr_set {c : RC} {w : World} {l : Nat} (h : Rn c w (l + 1) false) (hl : l + 1 ≤ lots) (a b d1 d2 : Nat) (ha : a < 18446744073709551616) (hb : b < 18446744073709551616) (hc : d1 < 18446744073709551616) (hd : d2 < 18446744073709551616) (t : ByteArray) (A : Option Addr) (n cp p : Nat) (hp : p ≤ c.s.data.toList.length) (hlen : c.s.data.toList.length ≤ 1000) :
    Calls Try.prog 53 #[.pointer (some ⟨c.R, 0, none⟩), .agg #[.int .i64 2, .int .u64 a, .int .u64 b, .int .u64 d1, .int .u64 d2, .string t, .slice A n cp], .int .i64 p] w (Gone c (l + 1) 1 (if p < c.s.data.toList.length ∧ hasE a b d1 d2 (bt c.s.data.toList p) = true then some (p + 1) else none) w) := by
  have hsz : c.s.data.toList.length = c.s.size := size_list _
  rw [hsz] at hp hlen ⊢
  have hwd : Words [a, b, d1, d2] := fun i => by
    match i with
    | 0 => exact ha
    | 1 => exact hb
    | 2 => exact hc
    | 3 => exact hd
    | i + 4 => simp
  have hlt := h.blk.lt
  have s2 := h.c2
  have s3 := h.c3
  have f2 := h.fr 2
  have hpl : ((l + 1 : Nat) : Int) = (l : Int) + 1 := by omega
  rw [hpl] at s2
  have hl0 : ((l : Int) + 1 == 0) = false := by rw [beq_eq_false_iff_ne]; omega
  have hne : w.heap.size ≠ c.R := by omega
  have hl' : l + 1 ≤ 2000000 := hl
  have HN := Lib.hid (RunC.start h #[.int .i64 2, .int .u64 a, .int .u64 b, .int .u64 d1, .int .u64 d2, .string t, .slice A n cp])
  clear h hl
  clear ha hb hc hd hsz
  have hwp : IntKind.i64.wrap ((p : Int) + 1) = (p : Int) + 1 := wrap_i64 _ (by omega) (by omega)
  by_cases hps : p < c.s.size
  · have hbt := bt_of hps
    have hh := has_any [a, b, d1, d2] hwd (bt c.s.data.toList p) (bt_lt _ _)
    unfold vals at hh
    have HX : Hid (hasE a b d1 d2 (bt c.s.data.toList p) = hasN [a, b, d1, d2] (bt c.s.data.toList p)) := by
      show _ = _
      unfold hasE
      simp only [Int.toNat_natCast]
    generalize hasN [a, b, d1, d2] (bt c.s.data.toList p) = x at hh HX
    rw [HX.out]
    generalize hO : (if p < c.s.size ∧ x = true then some (p + 1) else none) = o
    have HO := Lib.hid hO
    have hlt' : (p : Int) < (c.s.size : Int) := by omega
    have hlb : decide ((p : Int) < (c.s.size : Int)) = true := decide_eq_true hlt'
    clear HX hwd hO
    generalize bt c.s.data.toList p = y at hbt hh
    have HH := Lib.hid hh
    clear hh
    go_enter Try.func53, Try.ntmps53
    go_wp2_with fail
    refine wp_region_q (RunC c w l false #[.int .i64 2, .int .u64 a, .int .u64 b, .int .u64 d1, .int .u64 d2, .string t, .slice A n cp]) (by kernel_rfl) (by kernel_rfl) HN.out.drew ?_
    repeat
      (first | ((with_reducible apply QW.free rfl); · (intro W hW; have s1 := hW.rn.c1; have t1 := hW.box.cell 1; have t2 := hW.box.cell 2; have t3 := hW.box.cell 3; have t4 := hW.box.cell 4; go_simp; first | rfl | (go_at_call 23; refine (HH.out _).mono ?_; exact fun e w' h => ⟨h.1, hW.below h.2⟩))) | ((with_reducible apply QW.skip rfl); · (first | exact ⟨_, _, rfl, rfl, .inl rfl⟩ | exact ⟨_, _, rfl, rfl, .inr rfl⟩)) | ((with_reducible apply QW.take rfl); (· exact ⟨_, rfl, rfl⟩); (· (intro W hW; have s1 := hW.rn.c1; have t1 := hW.box.cell 1; have t2 := hW.box.cell 2; have t3 := hW.box.cell 3; have t4 := hW.box.cell 4; go_simp; first | rfl | (go_at_call 23; refine (HH.out _).mono ?_; exact fun e w' h => ⟨h.1, hW.below h.2⟩))))); (try simp only [Act.put, List.setIfInBounds_toArray, List.set_cons_zero, List.set_cons_succ])
    refine QW.nil ?_
    intro w1 h1
    go_wp2
    go_ret2
    have ho := HO.out
    cases x with
    | true =>
      rw [if_pos ⟨hps, rfl⟩] at ho
      subst ho
      exact .one ⟨((p + 1 : Nat) : Int), by simp, fun tz ht => by injection ht with ht; rw [ht]⟩ h1.rn h1.keeps
    | false =>
      rw [if_neg (by simp)] at ho
      subst ho
      exact .one ⟨((p + 1 : Nat) : Int), by simp, fun tz ht => by cases ht⟩ h1.rn h1.keeps
  · rw [if_neg (fun h => hps h.1)]
    have hlb : decide ((p : Int) < (c.s.size : Int)) = false := decide_eq_false (by omega)
    have hlt' : ((p : Int) < (c.s.size : Int)) = False := by simp; omega
    clear hwd hps
    go_enter Try.func53, Try.ntmps53
    go_wp2_with fail
    refine wp_region_q (RunC c w l false #[.int .i64 2, .int .u64 a, .int .u64 b, .int .u64 d1, .int .u64 d2, .string t, .slice A n cp]) (by kernel_rfl) (by kernel_rfl) HN.out.drew ?_
    repeat
      (first | ((with_reducible apply QW.free rfl); · (intro W hW; have s1 := hW.rn.c1; have t1 := hW.box.cell 1; have t2 := hW.box.cell 2; have t3 := hW.box.cell 3; have t4 := hW.box.cell 4; go_simp; first | rfl)) | ((with_reducible apply QW.skip rfl); · (first | exact ⟨_, _, rfl, rfl, .inl rfl⟩ | exact ⟨_, _, rfl, rfl, .inr rfl⟩)) | ((with_reducible apply QW.take rfl); (· exact ⟨_, rfl, rfl⟩); (· (intro W hW; have s1 := hW.rn.c1; have t1 := hW.box.cell 1; have t2 := hW.box.cell 2; have t3 := hW.box.cell 3; have t4 := hW.box.cell 4; go_simp; first | rfl)))); (try simp only [Act.put, List.setIfInBounds_toArray, List.set_cons_zero, List.set_cons_succ])
    refine QW.nil ?_
    intro w1 h1
    go_wp2
    go_ret2
    exact .one ⟨((p + 1 : Nat) : Int), by simp, fun tz ht => by cases ht⟩ h1.rn h1.keeps

set_option maxRecDepth 100000 in
set_option maxHeartbeats 8000000 in
theorem mr_lit {c : RC} {w : World} {l : Nat} (h : Rn c w (l + 1) false) (hl : l + 1 ≤ lots) (a b d1 d2 : Int) (t : ByteArray) (A : Option Addr) (n cp p : Nat) (hp : p ≤ c.s.data.toList.length) (hlen : c.s.data.toList.length ≤ 1000) (ht : t.size ≤ 1000) :
    Calls Try.prog 53 #[.pointer (some ⟨c.R, 0, none⟩), .agg #[.int .i64 3, .int .u64 a, .int .u64 b, .int .u64 d1, .int .u64 d2, .string t, .slice A n cp], .int .i64 p] w (Gone c (l + 1) 1 (if litAt c.s.data.toList p t.data.toList = true then some (p + t.size) else none) w) := by
  have hsz : c.s.data.toList.length = c.s.size := size_list _
  have hpf := hasPrefix_any (c.s.extract p c.s.size) t
  have hpe : t.data.toList.isPrefixOf (c.s.extract p c.s.size).data.toList = litAt c.s.data.toList p t.data.toList := by
    rw [Lib.extract_data, ← hsz, litAt, List.take_of_length_le (by rw [List.length_drop]; exact Nat.le_refl _)]
  rw [hpe] at hpf
  rw [hsz] at hp hlen
  have hlt := h.blk.lt
  have s2 := h.c2
  have s3 := h.c3
  have f2 := h.fr 2
  have hpl : ((l + 1 : Nat) : Int) = (l : Int) + 1 := by omega
  rw [hpl] at s2
  have hl0 : ((l : Int) + 1 == 0) = false := by rw [beq_eq_false_iff_ne]; omega
  have hne : w.heap.size ≠ c.R := by omega
  have hl' : l + 1 ≤ 2000000 := hl
  have HN := Lib.hid (RunC.start h #[.int .i64 3, .int .u64 a, .int .u64 b, .int .u64 d1, .int .u64 d2, .string t, .slice A n cp])
  clear h hl
  clear hpe hsz
  have hwp : IntKind.i64.wrap ((p : Int) + (t.size : Int)) = (p : Int) + (t.size : Int) := wrap_i64 _ (by omega) (by omega)
  have HX : Hid (litAt c.s.data.toList p t.data.toList = litAt c.s.data.toList p t.data.toList) := rfl
  generalize hx : litAt c.s.data.toList p t.data.toList = x at hpf
  generalize hO : (if x = true then some (p + t.size) else none) = o
  have HO := Lib.hid hO
  have HPF := Lib.hid hpf
  clear hpf hx HX hO
  go_enter Try.func53, Try.ntmps53
  go_wp2_with fail
  refine wp_region_q (RunC c w l false #[.int .i64 3, .int .u64 a, .int .u64 b, .int .u64 d1, .int .u64 d2, .string t, .slice A n cp]) (by kernel_rfl) (by kernel_rfl) HN.out.drew ?_
  repeat
    (first | ((with_reducible apply QW.free rfl); · (intro W hW; have s1 := hW.rn.c1; have t5 := hW.box.cell 5; go_simp; first | rfl | (go_at_call 86; refine (HPF.out _).mono ?_; exact fun e w' h => ⟨h.1, hW.below h.2⟩))) | ((with_reducible apply QW.skip rfl); · (first | exact ⟨_, _, rfl, rfl, .inl rfl⟩ | exact ⟨_, _, rfl, rfl, .inr rfl⟩)) | ((with_reducible apply QW.take rfl); (· exact ⟨_, rfl, rfl⟩); (· (intro W hW; have s1 := hW.rn.c1; have t5 := hW.box.cell 5; go_simp; first | rfl | (go_at_call 86; refine (HPF.out _).mono ?_; exact fun e w' h => ⟨h.1, hW.below h.2⟩))))); (try simp only [Act.put, List.setIfInBounds_toArray, List.set_cons_zero, List.set_cons_succ])
  refine QW.nil ?_
  intro w1 h1
  go_wp2
  go_ret2
  have ho := HO.out
  cases x with
  | true =>
    rw [if_pos rfl] at ho
    subst ho
    exact .one ⟨((p + t.size : Nat) : Int), by simp, fun tz ht => by injection ht with ht; rw [ht]⟩ h1.rn h1.keeps
  | false =>
    rw [if_neg (by simp)] at ho
    subst ho
    exact .one ⟨((p + t.size : Nat) : Int), by simp, fun tz ht => by cases ht⟩ h1.rn h1.keeps

end Go.Proofs.Ytjmckmjngnmagaa
