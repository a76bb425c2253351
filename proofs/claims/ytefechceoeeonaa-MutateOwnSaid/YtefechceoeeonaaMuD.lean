/- slices.Delete of one expression out of a row of one's own. -/
import Derived.Test.YtefechceoeeonaaMuW
import Derived.Lib.SliceRun
import Derived.Test.YtefechceoeeonaaRA
import Derived.ArgAppend
namespace Go.Proofs.Ytefechceoeeonaa
open Go.RowKit Go.Maps Go.Lib

theorem run_clear_one {P : Program} (w : World) (t e ty : TypeId) (z : Value) (ht : P.underlying t = some (.slice e)) (hv : ∀ w, (zeroValue e).run P w = .ok z w) (h1 : ∀ u ∈ z.cells.toList, u.oneCell' = true) (b o c : Nat)
    (hc : ∀ j, j < z.cells.toList.length → (w.cell? ⟨b, o + j, none⟩).isSome = true) (hf : ∀ j, j < z.cells.toList.length → w.frozen? ⟨b, o + j, none⟩ = false) :
    (Builtin.clear_ #[t] ty #[.slice (some ⟨b, o, none⟩) 1 c]).run P w = .ok (.tuple #[]) (w.setCells b o z.cells.toList) := by
  have hzc : (Builtin.zeroCells z.cells 1).toList = z.cells.toList := by
    simp [Builtin.zeroCells]
    apply List.ext_getElem
    · simp
    · intro i h1 h2
      simp at h1 h2 ⊢
      simp only [Nat.mod_eq_of_lt h2]
      exact getElem!_pos z.cells i h2
  have hst := run_storeCells_cells (P := P) b o z.cells.toList 0 w (by simpa using hc) (by simpa using hf) h1
  simp only [Nat.add_zero] at hst
  simp [Builtin.clear_, run_underlying ht, hv, hzc, hst]

/-- append to what has room behind it -/
theorem stepT_append_room {P : Program} {o : Oper} {a : Act} {w : World} {K : Act → World → Prop}
    (s x : Operand) (t : TypeId) (hop : o.op = Op.call { callee := Callee.builtin Builtin.append, args := #[s, x], argTypes := #[t, t] })
    (e : TypeId) (i : TypeInfo) (size : Nat) (h1 : P.underlying t = some (.slice e)) (h2 : P.info? e = some i) (h4 : i.size = size)
    (b off sLen sCap : Nat) (hs : a.eval s = .slice (some ⟨b, off, none⟩) sLen sCap)
    (ad : Addr) (m c : Nat) (news : List Value) (hx : a.eval x = .slice (some ad) m c) (hn : news.length = m * size) (hc : ∀ j u, news[j]? = some u → w.cell? (ad.add j) = some u) (h1c : ∀ u ∈ news, u.oneCell' = true)
    (hroom : sLen + m ≤ sCap) (hcl : ∀ j, j < news.length → (w.cell? ⟨b, off + sLen * size + j, none⟩).isSome = true) (hf : ∀ j, j < news.length → w.frozen? ⟨b, off + sLen * size + j, none⟩ = false)
    (hK : K (a.put o.dst (.slice (some ⟨b, off, none⟩) (sLen + m) sCap)) (w.setCells b (off + sLen * size) news)) : stepT P o a w K := by
  subst h4
  have hrun := run_append_room_cells (P := P) (w := w) t o.type e i h1 h2 b off sLen sCap ad m c news hn hc h1c hroom hcl hf
  unfold stepT
  simp [execOp, hop, resolve, invoke, builtin, hs, hx, hrun, Result.andThen]
  exact hK
theorem Blk.setCells {g : Nat} {t : TypeId} : ∀ (vs : List Value) (o : Nat) {w : World} {cs : Array Value}, Blk w g t cs → o + vs.length ≤ cs.size → ∃ cs', Blk (w.setCells g o vs) g t cs' ∧ cs'.toList = cs.toList.take o ++ vs ++ cs.toList.drop (o + vs.length) ∧ w.grownBy (w.setCells g o vs) (some g)
  | [], o, w, cs, h, _ => ⟨cs, h, by simp, World.grownBy.refl _ _⟩
  | v :: r, o, w, cs, h, hl => by
    rw [List.length_cons] at hl
    obtain ⟨cs', h1, h2, h3⟩ := Blk.setCells r (o + 1) (h.set_ o v) (by simp; omega)
    refine ⟨cs', h1, ?_, ?_⟩
    · rw [h2, Array.toList_setIfInBounds, take_set v (by rw [Array.length_toList]; omega), List.drop_set_of_lt (by omega), List.length_cons, show o + 1 + r.length = o + (r.length + 1) by omega]
      simp
    · have h0 : w.grownBy (w.setCell ⟨g, o, none⟩ v) (some g) := only_setCellE (World.grownBy.refl _ _) v
      exact ⟨h3.os.trans h0.os, h3.tape.trans h0.tape, h3.output.trans h0.output, Nat.le_trans h0.size h3.size, fun k hk hne => (h3.block k (Nat.lt_of_lt_of_le hk h0.size) hne).trans (h0.block k hk hne)⟩

set_option maxRecDepth 100000 in
set_option maxHeartbeats 4000000 in
set_option linter.unusedSimpArgs false in
theorem deleteE_any (g n c i : Nat) (cs : Array Value) (xs : List Value) (w : World) (hb : Blk w g 38 cs) (hs : cs.size = c * 7) (hxl : xs.length = n * 7) (ht : cs.toList.take (n * 7) = xs) (h1 : ∀ u ∈ xs, u.oneCell' = true) (hi : i < n) (hn : n ≤ c) (hc : c ≤ 9223372036854775807) :
    Calls Try.prog 98 #[.slice (some ⟨g, 0, none⟩) n c, .int .i64 i, .int .i64 ((i : Int) + 1)] w fun e w' => e = .returned (.slice (some ⟨g, 0, none⟩) (n - 1) c) ∧
      ∃ cs', Blk w' g 38 cs' ∧ cs'.size = c * 7 ∧ cs'.toList.take ((n - 1) * 7) = xs.take (i * 7) ++ xs.drop ((i + 1) * 7) ∧ w.grownBy w' (some g) := by
  obtain ⟨i0, hi0, hz0, hz1, hz2⟩ := info_parts expr_info
  obtain ⟨p, rfl⟩ : ∃ p, n = p + 1 := ⟨n - 1, by omega⟩
  rw [Nat.add_sub_cancel]
  have q1 : (i : Int) ≤ (i : Int) + 1 := by omega
  have q2 : (i : Int) + 1 ≤ (p : Int) + 1 := by omega
  have q2' : (i : Int) ≤ (p : Int) := by omega
  have q3 : ((i : Int) == (i : Int) + 1) = false := by rw [beq_eq_false_iff_ne]; omega
  go_enter Try.func98, Try.ntmps98
  go_upto_region 5 with fail
  refine wp_region_l (fun _ => True) (fun _ => false) (by kernel_rfl) ?_
  have hB : Blk w.drew g 38 cs := hb.drew
  have hC : True := trivial
  have hD : w.grownBy w.drew (some g) := ⟨rfl, rfl, rfl, Nat.le_refl _, fun _ _ _ => rfl⟩
  generalize w.drew = wd at hB hD ⊢
  have q4 : (i : Int) ≤ (c : Int) := by omega
  have q5 : (0 : Int) ≤ (i : Int) := by omega
  have q6 : (0 : Int) ≤ (i : Int) + 1 := by omega
  have q7 : (p : Int) + 1 ≤ (c : Int) := by omega
  apply L.rd (i := 0) rfl (by kernel_rfl) hC rfl
  · intro W hW
    skip
    unfold readW
    go_simp
    first | rfl | exact ⟨rfl, rfl⟩
  first | simp only [Act.put, List.setIfInBounds_toArray, List.set_cons_succ, List.set_cons_zero] | skip
  apply L.rd (i := 1) rfl (by kernel_rfl) hC rfl
  · intro W hW
    skip
    unfold readW
    go_simp
    first | rfl | exact ⟨rfl, rfl⟩
  first | simp only [Act.put, List.setIfInBounds_toArray, List.set_cons_succ, List.set_cons_zero] | skip
  apply L.rd (i := 2) rfl (by kernel_rfl) hC rfl
  · intro W hW
    skip
    unfold readW
    go_simp
    first | rfl | exact ⟨rfl, rfl⟩
  first | simp only [Act.put, List.setIfInBounds_toArray, List.set_cons_succ, List.set_cons_zero] | skip
  apply L.rd (i := 3) rfl (by kernel_rfl) hC rfl
  · intro W hW
    skip
    unfold readW
    go_simp
    first | rfl | exact ⟨rfl, rfl⟩
  first | simp only [Act.put, List.setIfInBounds_toArray, List.set_cons_succ, List.set_cons_zero] | skip
  apply L.rd (i := 4) rfl (by kernel_rfl) hC rfl
  · intro W hW
    skip
    unfold readW
    go_simp
    first | rfl | exact ⟨rfl, rfl⟩
  first | simp only [Act.put, List.setIfInBounds_toArray, List.set_cons_succ, List.set_cons_zero] | skip
  have hl2 : (xs.drop ((i + 1) * 7)).length = (p + 1 - (i + 1)) * 7 := by rw [List.length_drop, hxl]; omega
  have hsrc : ∀ j u, (xs.drop ((i + 1) * 7))[j]? = some u → wd.cell? ⟨g, (i + 1) * 7 + j, none⟩ = some u := by
    intro j u hu
    rw [List.getElem?_drop] at hu
    have hj := getElem?_lt hu
    rw [hB.cell, ← Array.getElem?_toList]
    rw [← ht, List.getElem?_take_of_lt (by omega)] at hu
    exact hu
  have hdst : ∀ j, j < (xs.drop ((i + 1) * 7)).length → (wd.cell? ⟨g, 0 + i * 7 + j, none⟩).isSome = true := fun j hj => by
    rw [hB.cell, Array.getElem?_eq_getElem (by omega)]
    rfl
  have hfz : ∀ j, j < (xs.drop ((i + 1) * 7)).length → wd.frozen? ⟨g, 0 + i * 7 + j, none⟩ = false := fun j _ => hB.frozen _
  have hone : ∀ u ∈ xs.drop ((i + 1) * 7), u.oneCell' = true := fun u hu => h1 u (List.mem_of_mem_drop hu)
  obtain ⟨c1, hB1, hB2, hB3⟩ := hB.setCells (xs.drop ((i + 1) * 7)) (0 + i * 7) (by omega)
  by_cases hci : i + 1 = c
  · have q8 : (c : Int) = (i : Int) + 1 := by omega
    have hz : (xs.drop ((i + 1) * 7)) = [] := List.eq_nil_of_length_eq_zero (by rw [hl2]; omega)
    apply L.rd (i := 5) rfl (by kernel_rfl) hC rfl
    · intro W hW
      skip
      unfold readW
      go_simp
      first | rfl | exact ⟨rfl, rfl⟩
    first | simp only [Act.put, List.setIfInBounds_toArray, List.set_cons_succ, List.set_cons_zero] | skip
    apply L.one (i := 6) rfl (by kernel_rfl) rfl
    refine stepT_append_room (.tmp 22) (.tmp 25) 36 rfl 38 i0 7 Try.underlying36 hi0 hz1 g 0 i c (by simp [Act.eval]) ⟨g, 0, none⟩ 0 0 (xs.drop ((i + 1) * 7)) (by simp [Act.eval]) (by rw [hz]; rfl) (by rw [hz]; intro j u hu; simp at hu) hone (by omega) hdst hfz ?_
    refine ⟨fun _ => trivial, ?_⟩
    first | simp only [Act.put, List.setIfInBounds_toArray, List.set_cons_succ, List.set_cons_zero] | skip
    apply L.rd (i := 7) rfl (by kernel_rfl) hC rfl
    · intro W hW
      skip
      unfold readW
      go_simp
      first | rfl | exact ⟨rfl, rfl⟩
    first | simp only [Act.put, List.setIfInBounds_toArray, List.set_cons_succ, List.set_cons_zero] | skip
    refine L.done (by kernel_rfl) ?_
    clear hsrc hdst hfz hone
    generalize wd.setCells g (0 + i * 7) (xs.drop ((i + 1) * 7)) = w1 at hB1 hB3 ⊢
    obtain rfl : i = p := by omega
    first | rw [Nat.add_zero] | skip
    clear q8
    subst hci
    have hs1 : c1.size = (i + 1) * 7 := by rw [← Array.length_toList, hB2]; simp; omega
    have hcl := fun ty => run_clear_one (P := Try.prog) w1 36 38 ty _ Try.underlying36 Try.zeroValue38 (by decide) g (i * 7) 1 (fun j hj => by rw [hB1.cell, Array.getElem?_eq_getElem (by have h7 : j < 7 := hj; omega)]; rfl) (fun j _ => hB1.frozen _)
    have q9 : i + 1 - i = 1 := by omega
    have q10 : ¬ i + 1 = i := by omega
    have q11 : (i : Int) ≤ (i : Int) + 1 := by omega
    have q12 : (i : Int) ≤ ((i + 1 : Nat) : Int) := by omega
    have hZ := hB1.setCells (zeroC) (i * 7) (by rw [hs1]; show i * 7 + 7 ≤ _; omega)
    have HZ := Lib.hid hZ
    go_wp2
    go_ret
    refine ⟨rfl, ?_⟩
    obtain ⟨c2, hE1, hE2, hE3⟩ := HZ.out
    have htx : cs.toList.take (i * 7) = xs.take (i * 7) := by rw [← ht, List.take_take, Nat.min_eq_left (by omega)]
    have hl1 : (cs.toList.take (0 + i * 7) ++ xs.drop ((i + 1) * 7)).length = i * 7 := by rw [List.length_append, hl2, List.length_take, Array.length_toList]; omega
    refine ⟨c2, hE1, ?_, ?_, ⟨hE3.os.trans (hB3.os.trans hD.os), hE3.tape.trans (hB3.tape.trans hD.tape), hE3.output.trans (hB3.output.trans hD.output), Nat.le_trans hD.size (Nat.le_trans hB3.size hE3.size), fun k hk hne => (hE3.block k (by have := hD.size; have := hB3.size; omega) hne).trans ((hB3.block k (by have := hD.size; omega) hne).trans (hD.block k hk hne))⟩⟩
    · rw [← Array.length_toList, hE2, List.length_append, List.length_append, List.length_take, List.length_drop, Array.length_toList, hs1]
      show min (i * 7) _ + 7 + _ = _
      show min (i * 7) _ + 7 + (_ - (i * 7 + 7)) = _
      omega
    · rw [hE2, List.append_assoc, List.take_append_of_le_length (by rw [List.length_take, Array.length_toList, hs1]; omega), List.take_take, Nat.min_self, hB2, List.take_append_of_le_length (by rw [hl1]; omega), List.take_of_length_le (by rw [hl1]; omega), Nat.zero_add, htx]
  · have q8 : ¬ (c = i + 1) := by omega
    apply L.rd (i := 5) rfl (by kernel_rfl) hC rfl
    · intro W hW
      skip
      unfold readW
      go_simp
      first | rfl | exact ⟨rfl, rfl⟩
    first | simp only [Act.put, List.setIfInBounds_toArray, List.set_cons_succ, List.set_cons_zero] | skip
    apply L.one (i := 6) rfl (by kernel_rfl) rfl
    refine stepT_append_room (.tmp 22) (.tmp 25) 36 rfl 38 i0 7 Try.underlying36 hi0 hz1 g 0 i c (by simp [Act.eval]) ⟨g, (i + 1) * 7, none⟩ (p + 1 - (i + 1)) (c - (i + 1)) (xs.drop ((i + 1) * 7)) (by simp [Act.eval]) hl2 (fun j u hu => by rw [Addr.add_lit]; exact hsrc j u hu) hone (by omega) hdst hfz ?_
    refine ⟨fun _ => trivial, ?_⟩
    first | simp only [Act.put, List.setIfInBounds_toArray, List.set_cons_succ, List.set_cons_zero] | skip
    apply L.rd (i := 7) rfl (by kernel_rfl) hC rfl
    · intro W hW
      skip
      unfold readW
      go_simp
      first | rfl | exact ⟨rfl, rfl⟩
    first | simp only [Act.put, List.setIfInBounds_toArray, List.set_cons_succ, List.set_cons_zero] | skip
    refine L.done (by kernel_rfl) ?_
    clear hsrc hdst hfz hone
    generalize wd.setCells g (0 + i * 7) (xs.drop ((i + 1) * 7)) = w1 at hB1 hB3 ⊢
    first | rw [show i + (p + 1 - (i + 1)) = p by omega] | skip
    first | rw [show i + (p - i) = p by omega] | skip
    have hs1 : c1.size = c * 7 := by rw [← Array.length_toList, hB2]; simp; omega
    have hcl := fun ty => run_clear_one (P := Try.prog) w1 36 38 ty _ Try.underlying36 Try.zeroValue38 (by decide) g (p * 7) (c - p) (fun j hj => by rw [hB1.cell, Array.getElem?_eq_getElem (by have h7 : j < 7 := hj; omega)]; rfl) (fun j _ => hB1.frozen _)
    have q9 : p + 1 - p = 1 := by omega
    have q10 : ¬ c = p := by omega
    have q11 : (p : Int) ≤ (p : Int) + 1 := by omega
    have q12 : (p : Int) ≤ (c : Int) := by omega
    have hZ := hB1.setCells (zeroC) (p * 7) (by rw [hs1]; show p * 7 + 7 ≤ _; omega)
    have HZ := Lib.hid hZ
    go_wp2
    go_ret
    refine ⟨rfl, ?_⟩
    obtain ⟨c2, hE1, hE2, hE3⟩ := HZ.out
    have htx : cs.toList.take (i * 7) = xs.take (i * 7) := by rw [← ht, List.take_take, Nat.min_eq_left (by omega)]
    have hl1 : (cs.toList.take (0 + i * 7) ++ xs.drop ((i + 1) * 7)).length = p * 7 := by rw [List.length_append, hl2, List.length_take, Array.length_toList]; omega
    refine ⟨c2, hE1, ?_, ?_, ⟨hE3.os.trans (hB3.os.trans hD.os), hE3.tape.trans (hB3.tape.trans hD.tape), hE3.output.trans (hB3.output.trans hD.output), Nat.le_trans hD.size (Nat.le_trans hB3.size hE3.size), fun k hk hne => (hE3.block k (by have := hD.size; have := hB3.size; omega) hne).trans ((hB3.block k (by have := hD.size; omega) hne).trans (hD.block k hk hne))⟩⟩
    · rw [← Array.length_toList, hE2, List.length_append, List.length_append, List.length_take, List.length_drop, Array.length_toList, hs1]
      show min (p * 7) _ + 7 + _ = _
      show min (p * 7) _ + 7 + (_ - (p * 7 + 7)) = _
      omega
    · rw [hE2, List.append_assoc, List.take_append_of_le_length (by rw [List.length_take, Array.length_toList, hs1]; omega), List.take_take, Nat.min_self, hB2, List.take_append_of_le_length (by rw [hl1]; omega), List.take_of_length_le (by rw [hl1]; omega), Nat.zero_add, htx]
end Go.Proofs.Ytefechceoeeonaa
