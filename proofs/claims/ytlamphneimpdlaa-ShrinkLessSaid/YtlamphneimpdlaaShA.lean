/- shrink.cut: pieces of a size are cut out, as long as it holds. -/
import Derived.Test.YtlamphneimpdlaaAcA
import Derived.Deep.QuietTactic
import Derived.BigQuiet
import Derived.Test.YtlamphneimpdlaaQSpg
import Derived.Deep.DeepCutAuto
namespace Go.Proofs.Ytlamphneimpdlaa
open Go.RowKit

/-- a text without some bytes -/
def cutOut (s : ByteArray) (i m : Nat) : ByteArray := s.extract 0 i ++ s.extract m s.size
theorem cutOut_list (s : ByteArray) (i m : Nat) : (cutOut s i m).data.toList = s.data.toList.take i ++ s.data.toList.drop m := by
  have hl : s.data.toList.length = s.size := size_list s
  unfold cutOut
  simp [ByteArray.data_extract, ByteArray.data_append]
  rw [List.take_of_length_le]
  simp
theorem cutOut_size {s : ByteArray} {i m : Nat} (hi : i ≤ s.size) (hm : m ≤ s.size) : (cutOut s i m).size = i + (s.size - m) := by
  rw [← size_list, cutOut_list, List.length_append, List.length_take, List.length_drop, size_list]
  omega
theorem cutOut_sub {s : ByteArray} {i m : Nat} (h : i ≤ m) : (cutOut s i m).data.toList.Sublist s.data.toList := by
  rw [cutOut_list]
  have h1 : s.data.toList.take i ++ s.data.toList.drop i = s.data.toList := List.take_append_drop i _
  conv => rhs; rw [← h1]
  refine (List.Sublist.refl _).append ?_
  rw [show m = i + (m - i) by omega, ← List.drop_drop]
  exact List.drop_sublist _ _
theorem bytes_ext {u v : ByteArray} (h : u.data.toList = v.data.toList) : u = v := by
  obtain ⟨⟨u⟩⟩ := u
  obtain ⟨⟨v⟩⟩ := v
  simp at h
  rw [h]
theorem cutOut_end (c : ByteArray) (i : Nat) : c.extract 0 i = cutOut c i c.size := by
  unfold cutOut
  refine bytes_ext ?_
  simp [ByteArray.data_extract]
def lenS : Value → Nat
  | .string s => s.size
  | _ => 0
/-- what cut leaves -/
def CutQ (P : ByteArray → Bool) (n : Nat) (s : ByteArray) (w : World) (e : Ending) (w' : World) : Prop := Below w.heap.size w w' ∧ ∃ (c : ByteArray) (b : Bool), e = .returned (.tuple #[.string c, .bool b]) ∧ c.data.toList.Sublist s.data.toList ∧ (P s = true → P c = true) ∧ (b = true → c.size < s.size) ∧
  (b = false → c = s ∧ (n = 1 → ∀ k, k < s.size → P (cutOut s k (k + 1)) = false))

set_option maxRecDepth 100000 in
set_option maxHeartbeats 8000000 in
theorem cut1_any {P : ByteArray → Bool} {tb : Nat} {w : World} (hP : ∀ W, Below w.heap.size w W → ∀ t : ByteArray, t.size ≤ 60 → Calls Try.prog 111 #[.string t, .pointer (some ⟨tb, 0, none⟩)] W fun e w' => e = .returned (.bool (P t)) ∧ Below W.heap.size W w') (n : Nat) (hn : 0 < n) (hn60 : n ≤ 60) (s : ByteArray) (hs : s.size ≤ 60) :
    Calls Try.prog 76 #[.string s, .int .i64 n, .func (.func 111) #[] #[.pointer (some ⟨tb, 0, none⟩)]] w (CutQ P n s w) := by
  have HP := Lib.hid hP
  clear hP
  go_enter Try.func76, Try.ntmps76
  go_wp2
  go_loopw [0, 8, 9] (fun v0 v8 v9 wr => ∃ (c : ByteArray) (b : Bool) (i : Nat), v0 = .string c ∧ v8 = .bool b ∧ v9 = .int .i64 i ∧ i ≤ 120 ∧ Below w.heap.size w wr ∧ Hid (c.data.toList.Sublist s.data.toList ∧ c.size ≤ s.size ∧ (P s = true → P c = true) ∧ (b = true → c.size < s.size) ∧
    (b = false → c = s ∧ (n = 1 → ∀ k, k < i → k < s.size → P (cutOut s k (k + 1)) = false)))) (fun v0 _ v9 _ => lenS v0 - (intOf v9).toNat)
  case atStart => exact ⟨s, false, 0, rfl, rfl, rfl, by omega, Below.refl _ _, List.Sublist.refl _, Nat.le_refl _, fun h => h, fun h => (by cases h), fun _ => ⟨rfl, fun _ k hk => by omega⟩⟩
  case round =>
    obtain ⟨c, b, i, rfl, rfl, rfl, hi, hbw, HI⟩ := hrel
    have hcs : c.size ≤ s.size := HI.out.2.1
    by_cases hil : i < c.size
    · have hil2 : (i : Int) < (c.size : Int) := by omega
      have hzw := hbw.size
      obtain ⟨k, hk⟩ : ∃ k, i + n = k := ⟨_, rfl⟩
      have hwk : IntKind.i64.wrap ((i : Int) + (n : Int)) = (k : Int) := by rw [← hk]; exact wrap_i64 _ (by omega) (by omega)
      have hic : i ≤ c.size := by omega
      have hcc : c.size ≤ c.size := Nat.le_refl _
      go_upto_region 4 with fail
      by_cases hm : k < c.size
      · have hm2 : (k : Int) < (c.size : Int) := by omega
        have hkc : k ≤ c.size := by omega
        have hbig : (9223372036854775807 < i + (c.size - k)) = False := by simp; omega
        have HT : Hid (c.extract 0 i ++ c.extract k c.size = cutOut c i k) := by exact rfl
        refine wp_region_l (fun _ => True) (fun _ => false) (by kernel_rfl) ?_
        have hC : True := trivial
        apply L.rd (i := 0) rfl (by kernel_rfl) hC rfl
        · intro W hW
          skip
          unfold readW
          go_simp
          first | rfl | exact ⟨rfl, rfl⟩
        first | simp only [Act.put, List.setIfInBounds_toArray, List.set_cons_succ, List.set_cons_zero] | skip
        apply L.rd (i := 1) rfl (by kernel_rfl) hC rfl
        · intro W hW
          skip
          unfold readW
          go_simp
          first | rfl | exact ⟨rfl, rfl⟩
        first | simp only [Act.put, List.setIfInBounds_toArray, List.set_cons_succ, List.set_cons_zero] | skip
        apply L.rd (i := 2) rfl (by kernel_rfl) hC rfl
        · intro W hW
          skip
          unfold readW
          go_simp
          first | rfl | exact ⟨rfl, rfl⟩
        first | simp only [Act.put, List.setIfInBounds_toArray, List.set_cons_succ, List.set_cons_zero] | skip
        apply L.rd (i := 3) rfl (by kernel_rfl) hC rfl
        · intro W hW
          skip
          unfold readW
          go_simp
          first | rfl | exact ⟨rfl, rfl⟩
        first | simp only [Act.put, List.setIfInBounds_toArray, List.set_cons_succ, List.set_cons_zero] | skip
        apply L.rd (i := 4) rfl (by kernel_rfl) hC rfl
        · intro W hW
          skip
          unfold readW
          go_simp
          first | rfl | exact ⟨rfl, rfl⟩
        first | simp only [Act.put, List.setIfInBounds_toArray, List.set_cons_succ, List.set_cons_zero] | skip
        apply L.rd (i := 5) rfl (by kernel_rfl) hC rfl
        · intro W hW
          skip
          unfold readW
          go_simp
          first | rfl | exact ⟨rfl, rfl⟩
        first | simp only [Act.put, List.setIfInBounds_toArray, List.set_cons_succ, List.set_cons_zero] | skip
        apply L.rd (i := 6) rfl (by kernel_rfl) hC rfl
        · intro W hW
          skip
          unfold readW
          go_simp
          first | rfl | exact ⟨rfl, rfl⟩
        first | simp only [Act.put, List.setIfInBounds_toArray, List.set_cons_succ, List.set_cons_zero] | skip
        apply L.rd (i := 7) rfl (by kernel_rfl) hC rfl
        · intro W hW
          skip
          unfold readW
          go_simp
          first | rfl | exact ⟨rfl, rfl⟩
        first | simp only [Act.put, List.setIfInBounds_toArray, List.set_cons_succ, List.set_cons_zero] | skip
        apply L.rd (i := 8) rfl (by kernel_rfl) hC rfl
        · intro W hW
          skip
          unfold readW
          go_simp
          first | rfl | exact ⟨rfl, rfl⟩
        first | simp only [Act.put, List.setIfInBounds_toArray, List.set_cons_succ, List.set_cons_zero] | skip
        apply L.rd (i := 9) rfl (by kernel_rfl) hC rfl
        · intro W hW
          skip
          unfold readW
          go_simp
          first | rfl | exact ⟨rfl, rfl⟩
        first | simp only [Act.put, List.setIfInBounds_toArray, List.set_cons_succ, List.set_cons_zero] | skip
        apply L.rd (i := 10) rfl (by kernel_rfl) hC rfl
        · intro W hW
          skip
          unfold readW
          go_simp
          first | rfl | exact ⟨rfl, rfl⟩
        first | simp only [Act.put, List.setIfInBounds_toArray, List.set_cons_succ, List.set_cons_zero] | skip
        apply L.rd (i := 11) rfl (by kernel_rfl) hC rfl
        · intro W hW
          skip
          unfold readW
          go_simp
          first | rfl | exact ⟨rfl, rfl⟩
        first | simp only [Act.put, List.setIfInBounds_toArray, List.set_cons_succ, List.set_cons_zero] | skip
        apply L.rd (i := 12) rfl (by kernel_rfl) hC rfl
        · intro W hW
          skip
          unfold readW
          go_simp
          first | rfl | exact ⟨rfl, rfl⟩
        first | simp only [Act.put, List.setIfInBounds_toArray, List.set_cons_succ, List.set_cons_zero] | skip
        refine L.done (by kernel_rfl) ?_
        have hts : (c.extract 0 i ++ c.extract k c.size).size ≤ 60 := by rw [HT.out, cutOut_size (by omega) (by omega)]; omega
        have hpt := fun W hW => HP.out W hW (c.extract 0 i ++ c.extract k c.size) hts
        have hTS : (c.extract 0 i ++ c.extract k c.size).size < c.size := by rw [HT.out, cutOut_size (by omega) (by omega)]; omega
        generalize ht : c.extract 0 i ++ c.extract k c.size = tt at hpt HT hts hTS ⊢
        clear ht
        have HPT := Lib.hid hpt
        clear hpt
        cases hx : P tt
        · rw [hx] at HPT
          have HX := Lib.hid hx
          clear hx
          go_wp2_with fail
          refine (HPT.out _ (by repeat (first | exact Below.refl _ _ | assumption | refine Below.drew ?_ | refine below_drewN ?_ _ | refine Below.alloc ?_ (by first | omega | (simp; omega) | simp) _ | refine Below.setCell ?_ (by first | omega | (simp; omega) | simp) _))).mono ?_
          rintro e w2 ⟨rfl, hb2⟩
          have hw2 : Below w.heap.size w w2 := Below.trans (by repeat (first | exact Below.refl _ _ | assumption | refine Below.drew ?_ | refine below_drewN ?_ _ | refine Below.alloc ?_ (by first | omega | (simp; omega) | simp) _ | refine Below.setCell ?_ (by first | omega | (simp; omega) | simp) _)) (hb2.mono hzw)
          clear hb2
          go_wp2
          go_roundw
          case rel =>
            refine ⟨c, b, k, rfl, rfl, by go_num, by omega, hw2, HI.out.1, HI.out.2.1, HI.out.2.2.1, HI.out.2.2.2.1, fun hb => ?_⟩
            obtain ⟨h1, h2⟩ := HI.out.2.2.2.2 hb
            refine ⟨h1, fun hn1 q hq hqs => ?_⟩
            by_cases hqi : q < i
            · exact h2 hn1 q hqi hqs
            · obtain rfl : q = i := by omega
              rw [← h1, show q + 1 = k by omega, ← HT.out]
              exact HX.out
          case measure => simp [intOf, lenS]; omega
        · rw [hx] at HPT
          have HX := Lib.hid hx
          clear hx
          go_wp2_with fail
          refine (HPT.out _ (by repeat (first | exact Below.refl _ _ | assumption | refine Below.drew ?_ | refine below_drewN ?_ _ | refine Below.alloc ?_ (by first | omega | (simp; omega) | simp) _ | refine Below.setCell ?_ (by first | omega | (simp; omega) | simp) _))).mono ?_
          rintro e w2 ⟨rfl, hb2⟩
          have hw2 : Below w.heap.size w w2 := Below.trans (by repeat (first | exact Below.refl _ _ | assumption | refine Below.drew ?_ | refine below_drewN ?_ _ | refine Below.alloc ?_ (by first | omega | (simp; omega) | simp) _ | refine Below.setCell ?_ (by first | omega | (simp; omega) | simp) _)) (hb2.mono hzw)
          clear hb2
          go_wp2
          go_roundw
          case rel =>
            refine ⟨tt, true, i, rfl, rfl, rfl, by omega, hw2, ?_, by omega, fun _ => HX.out, fun _ => by omega, fun hb => (by cases hb)⟩
            rw [HT.out]
            exact (cutOut_sub (by omega)).trans HI.out.1
          case measure => simp [intOf, lenS]; omega
      · have hm2 : ((k : Int) < (c.size : Int)) = False := by simp; omega
        have hbig : (9223372036854775807 < i) = False := by simp; omega
        have HT : Hid (c.extract 0 i = cutOut c i c.size) := cutOut_end c i
        refine wp_region_l (fun _ => True) (fun _ => false) (by kernel_rfl) ?_
        have hC : True := trivial
        apply L.rd (i := 0) rfl (by kernel_rfl) hC rfl
        · intro W hW
          skip
          unfold readW
          go_simp
          first | rfl | exact ⟨rfl, rfl⟩
        first | simp only [Act.put, List.setIfInBounds_toArray, List.set_cons_succ, List.set_cons_zero] | skip
        apply L.rd (i := 1) rfl (by kernel_rfl) hC rfl
        · intro W hW
          skip
          unfold readW
          go_simp
          first | rfl | exact ⟨rfl, rfl⟩
        first | simp only [Act.put, List.setIfInBounds_toArray, List.set_cons_succ, List.set_cons_zero] | skip
        apply L.rd (i := 2) rfl (by kernel_rfl) hC rfl
        · intro W hW
          skip
          unfold readW
          go_simp
          first | rfl | exact ⟨rfl, rfl⟩
        first | simp only [Act.put, List.setIfInBounds_toArray, List.set_cons_succ, List.set_cons_zero] | skip
        apply L.rd (i := 3) rfl (by kernel_rfl) hC rfl
        · intro W hW
          skip
          unfold readW
          go_simp
          first | rfl | exact ⟨rfl, rfl⟩
        first | simp only [Act.put, List.setIfInBounds_toArray, List.set_cons_succ, List.set_cons_zero] | skip
        apply L.rd (i := 4) rfl (by kernel_rfl) hC rfl
        · intro W hW
          skip
          unfold readW
          go_simp
          first | rfl | exact ⟨rfl, rfl⟩
        first | simp only [Act.put, List.setIfInBounds_toArray, List.set_cons_succ, List.set_cons_zero] | skip
        apply L.rd (i := 5) rfl (by kernel_rfl) hC rfl
        · intro W hW
          skip
          unfold readW
          go_simp
          first | rfl | exact ⟨rfl, rfl⟩
        first | simp only [Act.put, List.setIfInBounds_toArray, List.set_cons_succ, List.set_cons_zero] | skip
        apply L.rd (i := 6) rfl (by kernel_rfl) hC rfl
        · intro W hW
          skip
          unfold readW
          go_simp
          first | rfl | exact ⟨rfl, rfl⟩
        first | simp only [Act.put, List.setIfInBounds_toArray, List.set_cons_succ, List.set_cons_zero] | skip
        apply L.rd (i := 7) rfl (by kernel_rfl) hC rfl
        · intro W hW
          skip
          unfold readW
          go_simp
          first | rfl | exact ⟨rfl, rfl⟩
        first | simp only [Act.put, List.setIfInBounds_toArray, List.set_cons_succ, List.set_cons_zero] | skip
        apply L.rd (i := 8) rfl (by kernel_rfl) hC rfl
        · intro W hW
          skip
          unfold readW
          go_simp
          first | rfl | exact ⟨rfl, rfl⟩
        first | simp only [Act.put, List.setIfInBounds_toArray, List.set_cons_succ, List.set_cons_zero] | skip
        apply L.rd (i := 9) rfl (by kernel_rfl) hC rfl
        · intro W hW
          skip
          unfold readW
          go_simp
          first | rfl | exact ⟨rfl, rfl⟩
        first | simp only [Act.put, List.setIfInBounds_toArray, List.set_cons_succ, List.set_cons_zero] | skip
        apply L.rd (i := 10) rfl (by kernel_rfl) hC rfl
        · intro W hW
          skip
          unfold readW
          go_simp
          first | rfl | exact ⟨rfl, rfl⟩
        first | simp only [Act.put, List.setIfInBounds_toArray, List.set_cons_succ, List.set_cons_zero] | skip
        apply L.rd (i := 11) rfl (by kernel_rfl) hC rfl
        · intro W hW
          skip
          unfold readW
          go_simp
          first | rfl | exact ⟨rfl, rfl⟩
        first | simp only [Act.put, List.setIfInBounds_toArray, List.set_cons_succ, List.set_cons_zero] | skip
        apply L.rd (i := 12) rfl (by kernel_rfl) hC rfl
        · intro W hW
          skip
          unfold readW
          go_simp
          first | rfl | exact ⟨rfl, rfl⟩
        first | simp only [Act.put, List.setIfInBounds_toArray, List.set_cons_succ, List.set_cons_zero] | skip
        refine L.done (by kernel_rfl) ?_
        have hts : (c.extract 0 i).size ≤ 60 := by rw [HT.out, cutOut_size (by omega) (by omega)]; omega
        have hpt := fun W hW => HP.out W hW (c.extract 0 i) hts
        have hTS : (c.extract 0 i).size < c.size := by rw [HT.out, cutOut_size (by omega) (by omega)]; omega
        generalize ht : c.extract 0 i = tt at hpt HT hts hTS ⊢
        clear ht
        have HPT := Lib.hid hpt
        clear hpt
        cases hx : P tt
        · rw [hx] at HPT
          have HX := Lib.hid hx
          clear hx
          go_wp2_with fail
          refine (HPT.out _ (by repeat (first | exact Below.refl _ _ | assumption | refine Below.drew ?_ | refine below_drewN ?_ _ | refine Below.alloc ?_ (by first | omega | (simp; omega) | simp) _ | refine Below.setCell ?_ (by first | omega | (simp; omega) | simp) _))).mono ?_
          rintro e w2 ⟨rfl, hb2⟩
          have hw2 : Below w.heap.size w w2 := Below.trans (by repeat (first | exact Below.refl _ _ | assumption | refine Below.drew ?_ | refine below_drewN ?_ _ | refine Below.alloc ?_ (by first | omega | (simp; omega) | simp) _ | refine Below.setCell ?_ (by first | omega | (simp; omega) | simp) _)) (hb2.mono hzw)
          clear hb2
          go_wp2
          go_roundw
          case rel =>
            refine ⟨c, b, k, rfl, rfl, by go_num, by omega, hw2, HI.out.1, HI.out.2.1, HI.out.2.2.1, HI.out.2.2.2.1, fun hb => ?_⟩
            obtain ⟨h1, h2⟩ := HI.out.2.2.2.2 hb
            refine ⟨h1, fun hn1 q hq hqs => ?_⟩
            by_cases hqi : q < i
            · exact h2 hn1 q hqi hqs
            · obtain rfl : q = i := by omega
              rw [← h1, show q + 1 = c.size by omega, ← HT.out]
              exact HX.out
          case measure => simp [intOf, lenS]; omega
        · rw [hx] at HPT
          have HX := Lib.hid hx
          clear hx
          go_wp2_with fail
          refine (HPT.out _ (by repeat (first | exact Below.refl _ _ | assumption | refine Below.drew ?_ | refine below_drewN ?_ _ | refine Below.alloc ?_ (by first | omega | (simp; omega) | simp) _ | refine Below.setCell ?_ (by first | omega | (simp; omega) | simp) _))).mono ?_
          rintro e w2 ⟨rfl, hb2⟩
          have hw2 : Below w.heap.size w w2 := Below.trans (by repeat (first | exact Below.refl _ _ | assumption | refine Below.drew ?_ | refine below_drewN ?_ _ | refine Below.alloc ?_ (by first | omega | (simp; omega) | simp) _ | refine Below.setCell ?_ (by first | omega | (simp; omega) | simp) _)) (hb2.mono hzw)
          clear hb2
          go_wp2
          go_roundw
          case rel =>
            refine ⟨tt, true, i, rfl, rfl, rfl, by omega, hw2, ?_, by omega, fun _ => HX.out, fun _ => by omega, fun hb => (by cases hb)⟩
            rw [HT.out]
            exact (cutOut_sub (by omega)).trans HI.out.1
          case measure => simp [intOf, lenS]; omega
    · have hil2 : ((i : Int) < (c.size : Int)) = False := by simp; omega
      obtain ⟨h1, h2, h3, h4, h5⟩ := HI.out
      have HQ : Hid (CutQ P n s w (.returned (.tuple #[.string c, .bool b])) wr) := ⟨hbw, c, b, rfl, h1, h3, h4, fun hb => ⟨(h5 hb).1, fun hn1 k hk => (h5 hb).2 hn1 k (by have := (h5 hb).1; subst this; omega) hk⟩⟩
      clear h1 h2 h3 h4 h5 HI
      go_wp2
      go_ret2
      exact HQ.out
set_option maxRecDepth 100000 in
set_option maxHeartbeats 8000000 in
theorem cut2_any {P : ByteArray → Bool} {tb : Nat} {w : World} (hP : ∀ W, Below w.heap.size w W → ∀ t : ByteArray, t.size ≤ 60 → Calls Try.prog 112 #[.string t, .pointer (some ⟨tb, 0, none⟩)] W fun e w' => e = .returned (.bool (P t)) ∧ Below W.heap.size W w') (n : Nat) (hn : 0 < n) (hn60 : n ≤ 60) (s : ByteArray) (hs : s.size ≤ 60) :
    Calls Try.prog 76 #[.string s, .int .i64 n, .func (.func 112) #[] #[.pointer (some ⟨tb, 0, none⟩)]] w (CutQ P n s w) := by
  have HP := Lib.hid hP
  clear hP
  go_enter Try.func76, Try.ntmps76
  go_wp2
  go_loopw [0, 8, 9] (fun v0 v8 v9 wr => ∃ (c : ByteArray) (b : Bool) (i : Nat), v0 = .string c ∧ v8 = .bool b ∧ v9 = .int .i64 i ∧ i ≤ 120 ∧ Below w.heap.size w wr ∧ Hid (c.data.toList.Sublist s.data.toList ∧ c.size ≤ s.size ∧ (P s = true → P c = true) ∧ (b = true → c.size < s.size) ∧
    (b = false → c = s ∧ (n = 1 → ∀ k, k < i → k < s.size → P (cutOut s k (k + 1)) = false)))) (fun v0 _ v9 _ => lenS v0 - (intOf v9).toNat)
  case atStart => exact ⟨s, false, 0, rfl, rfl, rfl, by omega, Below.refl _ _, List.Sublist.refl _, Nat.le_refl _, fun h => h, fun h => (by cases h), fun _ => ⟨rfl, fun _ k hk => by omega⟩⟩
  case round =>
    obtain ⟨c, b, i, rfl, rfl, rfl, hi, hbw, HI⟩ := hrel
    have hcs : c.size ≤ s.size := HI.out.2.1
    by_cases hil : i < c.size
    · have hil2 : (i : Int) < (c.size : Int) := by omega
      have hzw := hbw.size
      obtain ⟨k, hk⟩ : ∃ k, i + n = k := ⟨_, rfl⟩
      have hwk : IntKind.i64.wrap ((i : Int) + (n : Int)) = (k : Int) := by rw [← hk]; exact wrap_i64 _ (by omega) (by omega)
      have hic : i ≤ c.size := by omega
      have hcc : c.size ≤ c.size := Nat.le_refl _
      go_upto_region 4 with fail
      by_cases hm : k < c.size
      · have hm2 : (k : Int) < (c.size : Int) := by omega
        have hkc : k ≤ c.size := by omega
        have hbig : (9223372036854775807 < i + (c.size - k)) = False := by simp; omega
        have HT : Hid (c.extract 0 i ++ c.extract k c.size = cutOut c i k) := by exact rfl
        refine wp_region_l (fun _ => True) (fun _ => false) (by kernel_rfl) ?_
        have hC : True := trivial
        apply L.rd (i := 0) rfl (by kernel_rfl) hC rfl
        · intro W hW
          skip
          unfold readW
          go_simp
          first | rfl | exact ⟨rfl, rfl⟩
        first | simp only [Act.put, List.setIfInBounds_toArray, List.set_cons_succ, List.set_cons_zero] | skip
        apply L.rd (i := 1) rfl (by kernel_rfl) hC rfl
        · intro W hW
          skip
          unfold readW
          go_simp
          first | rfl | exact ⟨rfl, rfl⟩
        first | simp only [Act.put, List.setIfInBounds_toArray, List.set_cons_succ, List.set_cons_zero] | skip
        apply L.rd (i := 2) rfl (by kernel_rfl) hC rfl
        · intro W hW
          skip
          unfold readW
          go_simp
          first | rfl | exact ⟨rfl, rfl⟩
        first | simp only [Act.put, List.setIfInBounds_toArray, List.set_cons_succ, List.set_cons_zero] | skip
        apply L.rd (i := 3) rfl (by kernel_rfl) hC rfl
        · intro W hW
          skip
          unfold readW
          go_simp
          first | rfl | exact ⟨rfl, rfl⟩
        first | simp only [Act.put, List.setIfInBounds_toArray, List.set_cons_succ, List.set_cons_zero] | skip
        apply L.rd (i := 4) rfl (by kernel_rfl) hC rfl
        · intro W hW
          skip
          unfold readW
          go_simp
          first | rfl | exact ⟨rfl, rfl⟩
        first | simp only [Act.put, List.setIfInBounds_toArray, List.set_cons_succ, List.set_cons_zero] | skip
        apply L.rd (i := 5) rfl (by kernel_rfl) hC rfl
        · intro W hW
          skip
          unfold readW
          go_simp
          first | rfl | exact ⟨rfl, rfl⟩
        first | simp only [Act.put, List.setIfInBounds_toArray, List.set_cons_succ, List.set_cons_zero] | skip
        apply L.rd (i := 6) rfl (by kernel_rfl) hC rfl
        · intro W hW
          skip
          unfold readW
          go_simp
          first | rfl | exact ⟨rfl, rfl⟩
        first | simp only [Act.put, List.setIfInBounds_toArray, List.set_cons_succ, List.set_cons_zero] | skip
        apply L.rd (i := 7) rfl (by kernel_rfl) hC rfl
        · intro W hW
          skip
          unfold readW
          go_simp
          first | rfl | exact ⟨rfl, rfl⟩
        first | simp only [Act.put, List.setIfInBounds_toArray, List.set_cons_succ, List.set_cons_zero] | skip
        apply L.rd (i := 8) rfl (by kernel_rfl) hC rfl
        · intro W hW
          skip
          unfold readW
          go_simp
          first | rfl | exact ⟨rfl, rfl⟩
        first | simp only [Act.put, List.setIfInBounds_toArray, List.set_cons_succ, List.set_cons_zero] | skip
        apply L.rd (i := 9) rfl (by kernel_rfl) hC rfl
        · intro W hW
          skip
          unfold readW
          go_simp
          first | rfl | exact ⟨rfl, rfl⟩
        first | simp only [Act.put, List.setIfInBounds_toArray, List.set_cons_succ, List.set_cons_zero] | skip
        apply L.rd (i := 10) rfl (by kernel_rfl) hC rfl
        · intro W hW
          skip
          unfold readW
          go_simp
          first | rfl | exact ⟨rfl, rfl⟩
        first | simp only [Act.put, List.setIfInBounds_toArray, List.set_cons_succ, List.set_cons_zero] | skip
        apply L.rd (i := 11) rfl (by kernel_rfl) hC rfl
        · intro W hW
          skip
          unfold readW
          go_simp
          first | rfl | exact ⟨rfl, rfl⟩
        first | simp only [Act.put, List.setIfInBounds_toArray, List.set_cons_succ, List.set_cons_zero] | skip
        apply L.rd (i := 12) rfl (by kernel_rfl) hC rfl
        · intro W hW
          skip
          unfold readW
          go_simp
          first | rfl | exact ⟨rfl, rfl⟩
        first | simp only [Act.put, List.setIfInBounds_toArray, List.set_cons_succ, List.set_cons_zero] | skip
        refine L.done (by kernel_rfl) ?_
        have hts : (c.extract 0 i ++ c.extract k c.size).size ≤ 60 := by rw [HT.out, cutOut_size (by omega) (by omega)]; omega
        have hpt := fun W hW => HP.out W hW (c.extract 0 i ++ c.extract k c.size) hts
        have hTS : (c.extract 0 i ++ c.extract k c.size).size < c.size := by rw [HT.out, cutOut_size (by omega) (by omega)]; omega
        generalize ht : c.extract 0 i ++ c.extract k c.size = tt at hpt HT hts hTS ⊢
        clear ht
        have HPT := Lib.hid hpt
        clear hpt
        cases hx : P tt
        · rw [hx] at HPT
          have HX := Lib.hid hx
          clear hx
          go_wp2_with fail
          refine (HPT.out _ (by repeat (first | exact Below.refl _ _ | assumption | refine Below.drew ?_ | refine below_drewN ?_ _ | refine Below.alloc ?_ (by first | omega | (simp; omega) | simp) _ | refine Below.setCell ?_ (by first | omega | (simp; omega) | simp) _))).mono ?_
          rintro e w2 ⟨rfl, hb2⟩
          have hw2 : Below w.heap.size w w2 := Below.trans (by repeat (first | exact Below.refl _ _ | assumption | refine Below.drew ?_ | refine below_drewN ?_ _ | refine Below.alloc ?_ (by first | omega | (simp; omega) | simp) _ | refine Below.setCell ?_ (by first | omega | (simp; omega) | simp) _)) (hb2.mono hzw)
          clear hb2
          go_wp2
          go_roundw
          case rel =>
            refine ⟨c, b, k, rfl, rfl, by go_num, by omega, hw2, HI.out.1, HI.out.2.1, HI.out.2.2.1, HI.out.2.2.2.1, fun hb => ?_⟩
            obtain ⟨h1, h2⟩ := HI.out.2.2.2.2 hb
            refine ⟨h1, fun hn1 q hq hqs => ?_⟩
            by_cases hqi : q < i
            · exact h2 hn1 q hqi hqs
            · obtain rfl : q = i := by omega
              rw [← h1, show q + 1 = k by omega, ← HT.out]
              exact HX.out
          case measure => simp [intOf, lenS]; omega
        · rw [hx] at HPT
          have HX := Lib.hid hx
          clear hx
          go_wp2_with fail
          refine (HPT.out _ (by repeat (first | exact Below.refl _ _ | assumption | refine Below.drew ?_ | refine below_drewN ?_ _ | refine Below.alloc ?_ (by first | omega | (simp; omega) | simp) _ | refine Below.setCell ?_ (by first | omega | (simp; omega) | simp) _))).mono ?_
          rintro e w2 ⟨rfl, hb2⟩
          have hw2 : Below w.heap.size w w2 := Below.trans (by repeat (first | exact Below.refl _ _ | assumption | refine Below.drew ?_ | refine below_drewN ?_ _ | refine Below.alloc ?_ (by first | omega | (simp; omega) | simp) _ | refine Below.setCell ?_ (by first | omega | (simp; omega) | simp) _)) (hb2.mono hzw)
          clear hb2
          go_wp2
          go_roundw
          case rel =>
            refine ⟨tt, true, i, rfl, rfl, rfl, by omega, hw2, ?_, by omega, fun _ => HX.out, fun _ => by omega, fun hb => (by cases hb)⟩
            rw [HT.out]
            exact (cutOut_sub (by omega)).trans HI.out.1
          case measure => simp [intOf, lenS]; omega
      · have hm2 : ((k : Int) < (c.size : Int)) = False := by simp; omega
        have hbig : (9223372036854775807 < i) = False := by simp; omega
        have HT : Hid (c.extract 0 i = cutOut c i c.size) := cutOut_end c i
        refine wp_region_l (fun _ => True) (fun _ => false) (by kernel_rfl) ?_
        have hC : True := trivial
        apply L.rd (i := 0) rfl (by kernel_rfl) hC rfl
        · intro W hW
          skip
          unfold readW
          go_simp
          first | rfl | exact ⟨rfl, rfl⟩
        first | simp only [Act.put, List.setIfInBounds_toArray, List.set_cons_succ, List.set_cons_zero] | skip
        apply L.rd (i := 1) rfl (by kernel_rfl) hC rfl
        · intro W hW
          skip
          unfold readW
          go_simp
          first | rfl | exact ⟨rfl, rfl⟩
        first | simp only [Act.put, List.setIfInBounds_toArray, List.set_cons_succ, List.set_cons_zero] | skip
        apply L.rd (i := 2) rfl (by kernel_rfl) hC rfl
        · intro W hW
          skip
          unfold readW
          go_simp
          first | rfl | exact ⟨rfl, rfl⟩
        first | simp only [Act.put, List.setIfInBounds_toArray, List.set_cons_succ, List.set_cons_zero] | skip
        apply L.rd (i := 3) rfl (by kernel_rfl) hC rfl
        · intro W hW
          skip
          unfold readW
          go_simp
          first | rfl | exact ⟨rfl, rfl⟩
        first | simp only [Act.put, List.setIfInBounds_toArray, List.set_cons_succ, List.set_cons_zero] | skip
        apply L.rd (i := 4) rfl (by kernel_rfl) hC rfl
        · intro W hW
          skip
          unfold readW
          go_simp
          first | rfl | exact ⟨rfl, rfl⟩
        first | simp only [Act.put, List.setIfInBounds_toArray, List.set_cons_succ, List.set_cons_zero] | skip
        apply L.rd (i := 5) rfl (by kernel_rfl) hC rfl
        · intro W hW
          skip
          unfold readW
          go_simp
          first | rfl | exact ⟨rfl, rfl⟩
        first | simp only [Act.put, List.setIfInBounds_toArray, List.set_cons_succ, List.set_cons_zero] | skip
        apply L.rd (i := 6) rfl (by kernel_rfl) hC rfl
        · intro W hW
          skip
          unfold readW
          go_simp
          first | rfl | exact ⟨rfl, rfl⟩
        first | simp only [Act.put, List.setIfInBounds_toArray, List.set_cons_succ, List.set_cons_zero] | skip
        apply L.rd (i := 7) rfl (by kernel_rfl) hC rfl
        · intro W hW
          skip
          unfold readW
          go_simp
          first | rfl | exact ⟨rfl, rfl⟩
        first | simp only [Act.put, List.setIfInBounds_toArray, List.set_cons_succ, List.set_cons_zero] | skip
        apply L.rd (i := 8) rfl (by kernel_rfl) hC rfl
        · intro W hW
          skip
          unfold readW
          go_simp
          first | rfl | exact ⟨rfl, rfl⟩
        first | simp only [Act.put, List.setIfInBounds_toArray, List.set_cons_succ, List.set_cons_zero] | skip
        apply L.rd (i := 9) rfl (by kernel_rfl) hC rfl
        · intro W hW
          skip
          unfold readW
          go_simp
          first | rfl | exact ⟨rfl, rfl⟩
        first | simp only [Act.put, List.setIfInBounds_toArray, List.set_cons_succ, List.set_cons_zero] | skip
        apply L.rd (i := 10) rfl (by kernel_rfl) hC rfl
        · intro W hW
          skip
          unfold readW
          go_simp
          first | rfl | exact ⟨rfl, rfl⟩
        first | simp only [Act.put, List.setIfInBounds_toArray, List.set_cons_succ, List.set_cons_zero] | skip
        apply L.rd (i := 11) rfl (by kernel_rfl) hC rfl
        · intro W hW
          skip
          unfold readW
          go_simp
          first | rfl | exact ⟨rfl, rfl⟩
        first | simp only [Act.put, List.setIfInBounds_toArray, List.set_cons_succ, List.set_cons_zero] | skip
        apply L.rd (i := 12) rfl (by kernel_rfl) hC rfl
        · intro W hW
          skip
          unfold readW
          go_simp
          first | rfl | exact ⟨rfl, rfl⟩
        first | simp only [Act.put, List.setIfInBounds_toArray, List.set_cons_succ, List.set_cons_zero] | skip
        refine L.done (by kernel_rfl) ?_
        have hts : (c.extract 0 i).size ≤ 60 := by rw [HT.out, cutOut_size (by omega) (by omega)]; omega
        have hpt := fun W hW => HP.out W hW (c.extract 0 i) hts
        have hTS : (c.extract 0 i).size < c.size := by rw [HT.out, cutOut_size (by omega) (by omega)]; omega
        generalize ht : c.extract 0 i = tt at hpt HT hts hTS ⊢
        clear ht
        have HPT := Lib.hid hpt
        clear hpt
        cases hx : P tt
        · rw [hx] at HPT
          have HX := Lib.hid hx
          clear hx
          go_wp2_with fail
          refine (HPT.out _ (by repeat (first | exact Below.refl _ _ | assumption | refine Below.drew ?_ | refine below_drewN ?_ _ | refine Below.alloc ?_ (by first | omega | (simp; omega) | simp) _ | refine Below.setCell ?_ (by first | omega | (simp; omega) | simp) _))).mono ?_
          rintro e w2 ⟨rfl, hb2⟩
          have hw2 : Below w.heap.size w w2 := Below.trans (by repeat (first | exact Below.refl _ _ | assumption | refine Below.drew ?_ | refine below_drewN ?_ _ | refine Below.alloc ?_ (by first | omega | (simp; omega) | simp) _ | refine Below.setCell ?_ (by first | omega | (simp; omega) | simp) _)) (hb2.mono hzw)
          clear hb2
          go_wp2
          go_roundw
          case rel =>
            refine ⟨c, b, k, rfl, rfl, by go_num, by omega, hw2, HI.out.1, HI.out.2.1, HI.out.2.2.1, HI.out.2.2.2.1, fun hb => ?_⟩
            obtain ⟨h1, h2⟩ := HI.out.2.2.2.2 hb
            refine ⟨h1, fun hn1 q hq hqs => ?_⟩
            by_cases hqi : q < i
            · exact h2 hn1 q hqi hqs
            · obtain rfl : q = i := by omega
              rw [← h1, show q + 1 = c.size by omega, ← HT.out]
              exact HX.out
          case measure => simp [intOf, lenS]; omega
        · rw [hx] at HPT
          have HX := Lib.hid hx
          clear hx
          go_wp2_with fail
          refine (HPT.out _ (by repeat (first | exact Below.refl _ _ | assumption | refine Below.drew ?_ | refine below_drewN ?_ _ | refine Below.alloc ?_ (by first | omega | (simp; omega) | simp) _ | refine Below.setCell ?_ (by first | omega | (simp; omega) | simp) _))).mono ?_
          rintro e w2 ⟨rfl, hb2⟩
          have hw2 : Below w.heap.size w w2 := Below.trans (by repeat (first | exact Below.refl _ _ | assumption | refine Below.drew ?_ | refine below_drewN ?_ _ | refine Below.alloc ?_ (by first | omega | (simp; omega) | simp) _ | refine Below.setCell ?_ (by first | omega | (simp; omega) | simp) _)) (hb2.mono hzw)
          clear hb2
          go_wp2
          go_roundw
          case rel =>
            refine ⟨tt, true, i, rfl, rfl, rfl, by omega, hw2, ?_, by omega, fun _ => HX.out, fun _ => by omega, fun hb => (by cases hb)⟩
            rw [HT.out]
            exact (cutOut_sub (by omega)).trans HI.out.1
          case measure => simp [intOf, lenS]; omega
    · have hil2 : ((i : Int) < (c.size : Int)) = False := by simp; omega
      obtain ⟨h1, h2, h3, h4, h5⟩ := HI.out
      have HQ : Hid (CutQ P n s w (.returned (.tuple #[.string c, .bool b])) wr) := ⟨hbw, c, b, rfl, h1, h3, h4, fun hb => ⟨(h5 hb).1, fun hn1 k hk => (h5 hb).2 hn1 k (by have := (h5 hb).1; subst this; omega) hk⟩⟩
      clear h1 h2 h3 h4 h5 HI
      go_wp2
      go_ret2
      exact HQ.out
set_option maxRecDepth 100000 in
set_option maxHeartbeats 8000000 in
theorem cut3_any {P : ByteArray → Bool} {tb : Nat} {w : World} (hP : ∀ W, Below w.heap.size w W → ∀ t : ByteArray, t.size ≤ 60 → Calls Try.prog 113 #[.string t, .pointer (some ⟨tb, 0, none⟩)] W fun e w' => e = .returned (.bool (P t)) ∧ Below W.heap.size W w') (n : Nat) (hn : 0 < n) (hn60 : n ≤ 60) (s : ByteArray) (hs : s.size ≤ 60) :
    Calls Try.prog 76 #[.string s, .int .i64 n, .func (.func 113) #[] #[.pointer (some ⟨tb, 0, none⟩)]] w (CutQ P n s w) := by
  have HP := Lib.hid hP
  clear hP
  go_enter Try.func76, Try.ntmps76
  go_wp2
  go_loopw [0, 8, 9] (fun v0 v8 v9 wr => ∃ (c : ByteArray) (b : Bool) (i : Nat), v0 = .string c ∧ v8 = .bool b ∧ v9 = .int .i64 i ∧ i ≤ 120 ∧ Below w.heap.size w wr ∧ Hid (c.data.toList.Sublist s.data.toList ∧ c.size ≤ s.size ∧ (P s = true → P c = true) ∧ (b = true → c.size < s.size) ∧
    (b = false → c = s ∧ (n = 1 → ∀ k, k < i → k < s.size → P (cutOut s k (k + 1)) = false)))) (fun v0 _ v9 _ => lenS v0 - (intOf v9).toNat)
  case atStart => exact ⟨s, false, 0, rfl, rfl, rfl, by omega, Below.refl _ _, List.Sublist.refl _, Nat.le_refl _, fun h => h, fun h => (by cases h), fun _ => ⟨rfl, fun _ k hk => by omega⟩⟩
  case round =>
    obtain ⟨c, b, i, rfl, rfl, rfl, hi, hbw, HI⟩ := hrel
    have hcs : c.size ≤ s.size := HI.out.2.1
    by_cases hil : i < c.size
    · have hil2 : (i : Int) < (c.size : Int) := by omega
      have hzw := hbw.size
      obtain ⟨k, hk⟩ : ∃ k, i + n = k := ⟨_, rfl⟩
      have hwk : IntKind.i64.wrap ((i : Int) + (n : Int)) = (k : Int) := by rw [← hk]; exact wrap_i64 _ (by omega) (by omega)
      have hic : i ≤ c.size := by omega
      have hcc : c.size ≤ c.size := Nat.le_refl _
      go_upto_region 4 with fail
      by_cases hm : k < c.size
      · have hm2 : (k : Int) < (c.size : Int) := by omega
        have hkc : k ≤ c.size := by omega
        have hbig : (9223372036854775807 < i + (c.size - k)) = False := by simp; omega
        have HT : Hid (c.extract 0 i ++ c.extract k c.size = cutOut c i k) := by exact rfl
        refine wp_region_l (fun _ => True) (fun _ => false) (by kernel_rfl) ?_
        have hC : True := trivial
        apply L.rd (i := 0) rfl (by kernel_rfl) hC rfl
        · intro W hW
          skip
          unfold readW
          go_simp
          first | rfl | exact ⟨rfl, rfl⟩
        first | simp only [Act.put, List.setIfInBounds_toArray, List.set_cons_succ, List.set_cons_zero] | skip
        apply L.rd (i := 1) rfl (by kernel_rfl) hC rfl
        · intro W hW
          skip
          unfold readW
          go_simp
          first | rfl | exact ⟨rfl, rfl⟩
        first | simp only [Act.put, List.setIfInBounds_toArray, List.set_cons_succ, List.set_cons_zero] | skip
        apply L.rd (i := 2) rfl (by kernel_rfl) hC rfl
        · intro W hW
          skip
          unfold readW
          go_simp
          first | rfl | exact ⟨rfl, rfl⟩
        first | simp only [Act.put, List.setIfInBounds_toArray, List.set_cons_succ, List.set_cons_zero] | skip
        apply L.rd (i := 3) rfl (by kernel_rfl) hC rfl
        · intro W hW
          skip
          unfold readW
          go_simp
          first | rfl | exact ⟨rfl, rfl⟩
        first | simp only [Act.put, List.setIfInBounds_toArray, List.set_cons_succ, List.set_cons_zero] | skip
        apply L.rd (i := 4) rfl (by kernel_rfl) hC rfl
        · intro W hW
          skip
          unfold readW
          go_simp
          first | rfl | exact ⟨rfl, rfl⟩
        first | simp only [Act.put, List.setIfInBounds_toArray, List.set_cons_succ, List.set_cons_zero] | skip
        apply L.rd (i := 5) rfl (by kernel_rfl) hC rfl
        · intro W hW
          skip
          unfold readW
          go_simp
          first | rfl | exact ⟨rfl, rfl⟩
        first | simp only [Act.put, List.setIfInBounds_toArray, List.set_cons_succ, List.set_cons_zero] | skip
        apply L.rd (i := 6) rfl (by kernel_rfl) hC rfl
        · intro W hW
          skip
          unfold readW
          go_simp
          first | rfl | exact ⟨rfl, rfl⟩
        first | simp only [Act.put, List.setIfInBounds_toArray, List.set_cons_succ, List.set_cons_zero] | skip
        apply L.rd (i := 7) rfl (by kernel_rfl) hC rfl
        · intro W hW
          skip
          unfold readW
          go_simp
          first | rfl | exact ⟨rfl, rfl⟩
        first | simp only [Act.put, List.setIfInBounds_toArray, List.set_cons_succ, List.set_cons_zero] | skip
        apply L.rd (i := 8) rfl (by kernel_rfl) hC rfl
        · intro W hW
          skip
          unfold readW
          go_simp
          first | rfl | exact ⟨rfl, rfl⟩
        first | simp only [Act.put, List.setIfInBounds_toArray, List.set_cons_succ, List.set_cons_zero] | skip
        apply L.rd (i := 9) rfl (by kernel_rfl) hC rfl
        · intro W hW
          skip
          unfold readW
          go_simp
          first | rfl | exact ⟨rfl, rfl⟩
        first | simp only [Act.put, List.setIfInBounds_toArray, List.set_cons_succ, List.set_cons_zero] | skip
        apply L.rd (i := 10) rfl (by kernel_rfl) hC rfl
        · intro W hW
          skip
          unfold readW
          go_simp
          first | rfl | exact ⟨rfl, rfl⟩
        first | simp only [Act.put, List.setIfInBounds_toArray, List.set_cons_succ, List.set_cons_zero] | skip
        apply L.rd (i := 11) rfl (by kernel_rfl) hC rfl
        · intro W hW
          skip
          unfold readW
          go_simp
          first | rfl | exact ⟨rfl, rfl⟩
        first | simp only [Act.put, List.setIfInBounds_toArray, List.set_cons_succ, List.set_cons_zero] | skip
        apply L.rd (i := 12) rfl (by kernel_rfl) hC rfl
        · intro W hW
          skip
          unfold readW
          go_simp
          first | rfl | exact ⟨rfl, rfl⟩
        first | simp only [Act.put, List.setIfInBounds_toArray, List.set_cons_succ, List.set_cons_zero] | skip
        refine L.done (by kernel_rfl) ?_
        have hts : (c.extract 0 i ++ c.extract k c.size).size ≤ 60 := by rw [HT.out, cutOut_size (by omega) (by omega)]; omega
        have hpt := fun W hW => HP.out W hW (c.extract 0 i ++ c.extract k c.size) hts
        have hTS : (c.extract 0 i ++ c.extract k c.size).size < c.size := by rw [HT.out, cutOut_size (by omega) (by omega)]; omega
        generalize ht : c.extract 0 i ++ c.extract k c.size = tt at hpt HT hts hTS ⊢
        clear ht
        have HPT := Lib.hid hpt
        clear hpt
        cases hx : P tt
        · rw [hx] at HPT
          have HX := Lib.hid hx
          clear hx
          go_wp2_with fail
          refine (HPT.out _ (by repeat (first | exact Below.refl _ _ | assumption | refine Below.drew ?_ | refine below_drewN ?_ _ | refine Below.alloc ?_ (by first | omega | (simp; omega) | simp) _ | refine Below.setCell ?_ (by first | omega | (simp; omega) | simp) _))).mono ?_
          rintro e w2 ⟨rfl, hb2⟩
          have hw2 : Below w.heap.size w w2 := Below.trans (by repeat (first | exact Below.refl _ _ | assumption | refine Below.drew ?_ | refine below_drewN ?_ _ | refine Below.alloc ?_ (by first | omega | (simp; omega) | simp) _ | refine Below.setCell ?_ (by first | omega | (simp; omega) | simp) _)) (hb2.mono hzw)
          clear hb2
          go_wp2
          go_roundw
          case rel =>
            refine ⟨c, b, k, rfl, rfl, by go_num, by omega, hw2, HI.out.1, HI.out.2.1, HI.out.2.2.1, HI.out.2.2.2.1, fun hb => ?_⟩
            obtain ⟨h1, h2⟩ := HI.out.2.2.2.2 hb
            refine ⟨h1, fun hn1 q hq hqs => ?_⟩
            by_cases hqi : q < i
            · exact h2 hn1 q hqi hqs
            · obtain rfl : q = i := by omega
              rw [← h1, show q + 1 = k by omega, ← HT.out]
              exact HX.out
          case measure => simp [intOf, lenS]; omega
        · rw [hx] at HPT
          have HX := Lib.hid hx
          clear hx
          go_wp2_with fail
          refine (HPT.out _ (by repeat (first | exact Below.refl _ _ | assumption | refine Below.drew ?_ | refine below_drewN ?_ _ | refine Below.alloc ?_ (by first | omega | (simp; omega) | simp) _ | refine Below.setCell ?_ (by first | omega | (simp; omega) | simp) _))).mono ?_
          rintro e w2 ⟨rfl, hb2⟩
          have hw2 : Below w.heap.size w w2 := Below.trans (by repeat (first | exact Below.refl _ _ | assumption | refine Below.drew ?_ | refine below_drewN ?_ _ | refine Below.alloc ?_ (by first | omega | (simp; omega) | simp) _ | refine Below.setCell ?_ (by first | omega | (simp; omega) | simp) _)) (hb2.mono hzw)
          clear hb2
          go_wp2
          go_roundw
          case rel =>
            refine ⟨tt, true, i, rfl, rfl, rfl, by omega, hw2, ?_, by omega, fun _ => HX.out, fun _ => by omega, fun hb => (by cases hb)⟩
            rw [HT.out]
            exact (cutOut_sub (by omega)).trans HI.out.1
          case measure => simp [intOf, lenS]; omega
      · have hm2 : ((k : Int) < (c.size : Int)) = False := by simp; omega
        have hbig : (9223372036854775807 < i) = False := by simp; omega
        have HT : Hid (c.extract 0 i = cutOut c i c.size) := cutOut_end c i
        refine wp_region_l (fun _ => True) (fun _ => false) (by kernel_rfl) ?_
        have hC : True := trivial
        apply L.rd (i := 0) rfl (by kernel_rfl) hC rfl
        · intro W hW
          skip
          unfold readW
          go_simp
          first | rfl | exact ⟨rfl, rfl⟩
        first | simp only [Act.put, List.setIfInBounds_toArray, List.set_cons_succ, List.set_cons_zero] | skip
        apply L.rd (i := 1) rfl (by kernel_rfl) hC rfl
        · intro W hW
          skip
          unfold readW
          go_simp
          first | rfl | exact ⟨rfl, rfl⟩
        first | simp only [Act.put, List.setIfInBounds_toArray, List.set_cons_succ, List.set_cons_zero] | skip
        apply L.rd (i := 2) rfl (by kernel_rfl) hC rfl
        · intro W hW
          skip
          unfold readW
          go_simp
          first | rfl | exact ⟨rfl, rfl⟩
        first | simp only [Act.put, List.setIfInBounds_toArray, List.set_cons_succ, List.set_cons_zero] | skip
        apply L.rd (i := 3) rfl (by kernel_rfl) hC rfl
        · intro W hW
          skip
          unfold readW
          go_simp
          first | rfl | exact ⟨rfl, rfl⟩
        first | simp only [Act.put, List.setIfInBounds_toArray, List.set_cons_succ, List.set_cons_zero] | skip
        apply L.rd (i := 4) rfl (by kernel_rfl) hC rfl
        · intro W hW
          skip
          unfold readW
          go_simp
          first | rfl | exact ⟨rfl, rfl⟩
        first | simp only [Act.put, List.setIfInBounds_toArray, List.set_cons_succ, List.set_cons_zero] | skip
        apply L.rd (i := 5) rfl (by kernel_rfl) hC rfl
        · intro W hW
          skip
          unfold readW
          go_simp
          first | rfl | exact ⟨rfl, rfl⟩
        first | simp only [Act.put, List.setIfInBounds_toArray, List.set_cons_succ, List.set_cons_zero] | skip
        apply L.rd (i := 6) rfl (by kernel_rfl) hC rfl
        · intro W hW
          skip
          unfold readW
          go_simp
          first | rfl | exact ⟨rfl, rfl⟩
        first | simp only [Act.put, List.setIfInBounds_toArray, List.set_cons_succ, List.set_cons_zero] | skip
        apply L.rd (i := 7) rfl (by kernel_rfl) hC rfl
        · intro W hW
          skip
          unfold readW
          go_simp
          first | rfl | exact ⟨rfl, rfl⟩
        first | simp only [Act.put, List.setIfInBounds_toArray, List.set_cons_succ, List.set_cons_zero] | skip
        apply L.rd (i := 8) rfl (by kernel_rfl) hC rfl
        · intro W hW
          skip
          unfold readW
          go_simp
          first | rfl | exact ⟨rfl, rfl⟩
        first | simp only [Act.put, List.setIfInBounds_toArray, List.set_cons_succ, List.set_cons_zero] | skip
        apply L.rd (i := 9) rfl (by kernel_rfl) hC rfl
        · intro W hW
          skip
          unfold readW
          go_simp
          first | rfl | exact ⟨rfl, rfl⟩
        first | simp only [Act.put, List.setIfInBounds_toArray, List.set_cons_succ, List.set_cons_zero] | skip
        apply L.rd (i := 10) rfl (by kernel_rfl) hC rfl
        · intro W hW
          skip
          unfold readW
          go_simp
          first | rfl | exact ⟨rfl, rfl⟩
        first | simp only [Act.put, List.setIfInBounds_toArray, List.set_cons_succ, List.set_cons_zero] | skip
        apply L.rd (i := 11) rfl (by kernel_rfl) hC rfl
        · intro W hW
          skip
          unfold readW
          go_simp
          first | rfl | exact ⟨rfl, rfl⟩
        first | simp only [Act.put, List.setIfInBounds_toArray, List.set_cons_succ, List.set_cons_zero] | skip
        apply L.rd (i := 12) rfl (by kernel_rfl) hC rfl
        · intro W hW
          skip
          unfold readW
          go_simp
          first | rfl | exact ⟨rfl, rfl⟩
        first | simp only [Act.put, List.setIfInBounds_toArray, List.set_cons_succ, List.set_cons_zero] | skip
        refine L.done (by kernel_rfl) ?_
        have hts : (c.extract 0 i).size ≤ 60 := by rw [HT.out, cutOut_size (by omega) (by omega)]; omega
        have hpt := fun W hW => HP.out W hW (c.extract 0 i) hts
        have hTS : (c.extract 0 i).size < c.size := by rw [HT.out, cutOut_size (by omega) (by omega)]; omega
        generalize ht : c.extract 0 i = tt at hpt HT hts hTS ⊢
        clear ht
        have HPT := Lib.hid hpt
        clear hpt
        cases hx : P tt
        · rw [hx] at HPT
          have HX := Lib.hid hx
          clear hx
          go_wp2_with fail
          refine (HPT.out _ (by repeat (first | exact Below.refl _ _ | assumption | refine Below.drew ?_ | refine below_drewN ?_ _ | refine Below.alloc ?_ (by first | omega | (simp; omega) | simp) _ | refine Below.setCell ?_ (by first | omega | (simp; omega) | simp) _))).mono ?_
          rintro e w2 ⟨rfl, hb2⟩
          have hw2 : Below w.heap.size w w2 := Below.trans (by repeat (first | exact Below.refl _ _ | assumption | refine Below.drew ?_ | refine below_drewN ?_ _ | refine Below.alloc ?_ (by first | omega | (simp; omega) | simp) _ | refine Below.setCell ?_ (by first | omega | (simp; omega) | simp) _)) (hb2.mono hzw)
          clear hb2
          go_wp2
          go_roundw
          case rel =>
            refine ⟨c, b, k, rfl, rfl, by go_num, by omega, hw2, HI.out.1, HI.out.2.1, HI.out.2.2.1, HI.out.2.2.2.1, fun hb => ?_⟩
            obtain ⟨h1, h2⟩ := HI.out.2.2.2.2 hb
            refine ⟨h1, fun hn1 q hq hqs => ?_⟩
            by_cases hqi : q < i
            · exact h2 hn1 q hqi hqs
            · obtain rfl : q = i := by omega
              rw [← h1, show q + 1 = c.size by omega, ← HT.out]
              exact HX.out
          case measure => simp [intOf, lenS]; omega
        · rw [hx] at HPT
          have HX := Lib.hid hx
          clear hx
          go_wp2_with fail
          refine (HPT.out _ (by repeat (first | exact Below.refl _ _ | assumption | refine Below.drew ?_ | refine below_drewN ?_ _ | refine Below.alloc ?_ (by first | omega | (simp; omega) | simp) _ | refine Below.setCell ?_ (by first | omega | (simp; omega) | simp) _))).mono ?_
          rintro e w2 ⟨rfl, hb2⟩
          have hw2 : Below w.heap.size w w2 := Below.trans (by repeat (first | exact Below.refl _ _ | assumption | refine Below.drew ?_ | refine below_drewN ?_ _ | refine Below.alloc ?_ (by first | omega | (simp; omega) | simp) _ | refine Below.setCell ?_ (by first | omega | (simp; omega) | simp) _)) (hb2.mono hzw)
          clear hb2
          go_wp2
          go_roundw
          case rel =>
            refine ⟨tt, true, i, rfl, rfl, rfl, by omega, hw2, ?_, by omega, fun _ => HX.out, fun _ => by omega, fun hb => (by cases hb)⟩
            rw [HT.out]
            exact (cutOut_sub (by omega)).trans HI.out.1
          case measure => simp [intOf, lenS]; omega
    · have hil2 : ((i : Int) < (c.size : Int)) = False := by simp; omega
      obtain ⟨h1, h2, h3, h4, h5⟩ := HI.out
      have HQ : Hid (CutQ P n s w (.returned (.tuple #[.string c, .bool b])) wr) := ⟨hbw, c, b, rfl, h1, h3, h4, fun hb => ⟨(h5 hb).1, fun hn1 k hk => (h5 hb).2 hn1 k (by have := (h5 hb).1; subst this; omega) hk⟩⟩
      clear h1 h2 h3 h4 h5 HI
      go_wp2
      go_ret2
      exact HQ.out
end Go.Proofs.Ytlamphneimpdlaa
