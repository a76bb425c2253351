/- What cover.Left, slices.Index and slices.Contains of ints answer. -/
import Derived.Test.YtkoenjnjkapfmaaCovLaw
namespace Go.Proofs.Ytkoenjnjkapfmaa
open Go.RowKit

/-- the places of what is even, from k on -/
def leftF : List Int → Nat → List Int
  | [], _ => []
  | z :: zs, k => if z % 2 = 0 then (k : Int) :: leftF zs (k + 1) else leftF zs (k + 1)
def leftL (zs : List Int) : List Int := leftF zs 0

theorem leftF_cons (z : Int) (zs : List Int) (k : Nat) : leftF (z :: zs) k = if z % 2 = 0 then (k : Int) :: leftF zs (k + 1) else leftF zs (k + 1) := rfl

theorem leftF_snoc : ∀ (zs : List Int) (k : Nat) (z : Int), leftF (zs ++ [z]) k = leftF zs k ++ (if z % 2 = 0 then [((k + zs.length : Nat) : Int)] else [])
  | [], k, z => by
    show leftF [z] k = _
    rw [leftF_cons]
    simp only [leftF, List.nil_append, List.length_nil, Nat.add_zero]
  | x :: zs, k, z => by
    have ih := leftF_snoc zs (k + 1) z
    have e : k + 1 + zs.length = k + (x :: zs).length := by simp; omega
    rw [e] at ih
    show leftF (x :: (zs ++ [z])) k = _
    rw [leftF_cons, leftF_cons, ih]
    split <;> simp
theorem leftF_len : ∀ (zs : List Int) (k : Nat), (leftF zs k).length ≤ zs.length
  | [], _ => by simp [leftF]
  | x :: zs, k => by
    have := leftF_len zs (k + 1)
    rw [leftF_cons]
    split <;> simp <;> omega
theorem leftF_mem : ∀ (zs : List Int) (k j : Nat), ((j : Int) ∈ leftF zs k) ↔ k ≤ j ∧ ∃ z, zs[j - k]? = some z ∧ z % 2 = 0
  | [], k, j => by simp [leftF]
  | x :: zs, k, j => by
    have ih := leftF_mem zs (k + 1) j
    have h : ((j : Int) ∈ leftF (x :: zs) k) ↔ (j = k ∧ x % 2 = 0) ∨ (j : Int) ∈ leftF zs (k + 1) := by
      rw [leftF_cons]
      split
      · rename_i h
        rw [List.mem_cons]
        constructor
        · rintro (h1 | h1)
          · exact .inl ⟨by omega, h⟩
          · exact .inr h1
        · rintro (⟨h1, _⟩ | h1)
          · exact .inl (by omega)
          · exact .inr h1
      · rename_i h
        constructor
        · exact .inr
        · rintro (⟨_, h1⟩ | h1)
          · exact absurd h1 h
          · exact h1
    rw [h, ih]
    constructor
    · rintro (⟨rfl, hx⟩ | ⟨h1, z, hz, h2⟩)
      · exact ⟨Nat.le_refl _, x, by simp, hx⟩
      · refine ⟨by omega, z, ?_, h2⟩
        rw [show j - k = (j - (k + 1)) + 1 by omega]
        simpa using hz
    · rintro ⟨h1, z, hz, h2⟩
      by_cases hjk : j = k
      · subst hjk
        refine .inl ⟨rfl, ?_⟩
        have : x = z := by simpa using hz
        rw [this]; exact h2
      · refine .inr ⟨by omega, z, ?_, h2⟩
        rw [show j - k = (j - (k + 1)) + 1 by omega] at hz
        simpa using hz
theorem leftL_mem (zs : List Int) (j : Nat) : ((j : Int) ∈ leftL zs) ↔ ∃ z, zs[j]? = some z ∧ z % 2 = 0 := by
  rw [leftL, leftF_mem]; simp

theorem and_one (z : Int) (h : 0 ≤ z ∧ z ≤ 3) : bits .and .i64 z 1 = z % 2 := by
  obtain ⟨n, rfl⟩ := Int.eq_ofNat_of_zero_le h.1
  have hn : n < 4 := by omega
  have h : ∀ n : Fin 4, bits .and .i64 ((n : Nat) : Int) 1 = ((n : Nat) : Int) % 2 := by decide +kernel
  exact h ⟨n, hn⟩

theorem left_no (A : Option Addr) (n c : Nat) (a : List Int) (B : Nat) (w : World) (ha : Reads w B 1 A n (ints a)) (h1 : checkL a ≠ 0) :
    Calls Try.prog 30 #[.slice A n c] w fun e w' => e = .returned (.tuple #[.slice none 0 0, .int .i64 (checkL a)]) ∧ Below w.heap.size w w' := by
  have H1 := Lib.hid h1
  have hne : (checkL a != 0) = true := by simpa using h1
  clear h1
  go_enter Try.func30, Try.ntmps30
  go_wp2_with (go_at_call 43; (with_reducible refine (check_any A n c a B _ ha).mono ?_); rintro e w' ⟨rfl, rfl⟩)
  go_ret2
  exact ⟨rfl, Below.refl _ _⟩

theorem left_yes (A : Option Addr) (n c : Nat) (a : List Int) (B : Nat) (w : World) (ha : Reads w B 1 A n (ints a)) (hB : B ≤ w.heap.size) (h1 : checkL a = 0) :
    Calls Try.prog 30 #[.slice A n c] w fun e w' => ∃ V c, e = .returned (.tuple #[.slice V (leftL a).length c, .int .i64 0]) ∧ Reads w' w'.heap.size 1 V (leftL a).length (ints (leftL a)) ∧ Below w.heap.size w w' := by
  obtain ⟨i0, hi0, hz0, hz1, hz2⟩ := info_parts int_info
  obtain ⟨l1, l2⟩ := check_01 h1
  have hl := ha.ints_len
  have hn120 : n ≤ 120 := by omega
  have HL := Lib.hid hl
  have L2 := Lib.hid l2
  have H1 := Lib.hid h1
  clear h1 l1 l2 hl
  go_enter Try.func30, Try.ntmps30
  go_wp2_with (go_at_call 43; (with_reducible refine (check_any A n c a B _ ha).mono ?_); rw [H1.out]; rintro e w' ⟨rfl, rfl⟩)
  go_loopw [5, 6, 7, 15] (fun v _ _ i wr => ∃ k : Nat, k ≤ n ∧ i = .int .i64 k ∧ (∃ V m cp, m ≤ k ∧ v = .slice V m cp ∧ wr.ownsRow w.heap.size 3 1 (.slice V m cp) m (ints (leftF (a.take k) 0))) ∧ Below w.heap.size w wr) (fun _ _ _ i _ => n - (intOf i).toNat)
  case atStart => exact ⟨0, by omega, rfl, ⟨none, 0, 0, by omega, rfl, by simp [ints, leftF], .inl ⟨rfl, rfl⟩⟩, Below.refl _ _⟩
  case round =>
    obtain ⟨k, hk, rfl, ⟨V, m, cp, hm, rfl, hown⟩, hbw⟩ := hrel
    have hsz := hbw.size
    by_cases hkn : k < n
    · obtain ⟨ad, x, rfl, hab, hx, hcx⟩ := (ha.below (hbw.mono hB)).int_at hkn
      have hxb := L2.out x (List.mem_of_getElem? hx)
      have HX := Lib.hid hx
      have hand := and_one x hxb
      have hsn := leftF_snoc (a.take k) 0 x
      rw [← take_succ_of hx] at hsn
      have HS := Lib.hid hsn
      have hlk : (a.take k).length = k := by rw [List.length_take, HL.out]; omega
      have HLK := Lib.hid hlk
      clear hx hsn hlk
      by_cases hx2 : x % 2 = 0
      · have ht : ((x % 2 : Int) == 0) = true := by simpa using hx2
        go_wp2_with (at_builtin; refine wpList_append_lies _ rfl _ _ _ rfl w.heap.size 3 i0 _ 1 8 Try.underlying29 hi0 hz0 hz1 hz2 rfl (by omega) (.slice V m cp) m _ rfl (hown.alloc _) ⟨wr.heap.size, 0, none⟩ 1 1 [.int .i64 (k : Int)] rfl rfl (World.news_of_block (cs := #[.int .i64 (k : Int)]) (t := 3) (fr := (0, 0)) (heap_alloc_new wr _)) (by simp [Value.oneCell']) (by omega) (by unfold maxLen; omega) (by omega) (by simp; omega) (wr.heap.size + 1) (by simp) ?_; intro gg cap w1 hown1 hgrow hat hlt)
        go_roundw
        case rel =>
          refine ⟨k + 1, by omega, by go_num, ⟨_, _, cap, by omega, rfl, ?_⟩, ?_⟩
          · rw [HS.out, if_pos hx2, HLK.out, ints_append, Nat.zero_add]
            exact hown1
          · exact below_app (hbw.alloc hsz _) (hown.alloc _) hgrow (by simp; omega) (Nat.le_refl _)
        case measure => simp [intOf]; omega
      · have ht : ((x % 2 : Int) == 0) = false := by simpa using hx2
        go_wp2
        go_roundw
        case rel =>
          refine ⟨k + 1, by omega, by go_num, ⟨_, _, cp, by omega, rfl, ?_⟩, hbw⟩
          rw [HS.out, if_neg hx2, List.append_nil]
          exact hown
        case measure => simp [intOf]; omega
    · obtain rfl : k = n := by omega
      go_wp2
      go_ret2
      have e1 : leftF (a.take k) 0 = leftL a := by rw [List.take_of_length_le (by rw [HL.out]; omega)]; rfl
      rw [e1] at hown
      have e2 : (leftL a).length = m := by have := hown.1; simpa [ints] using this
      exact ⟨V, cp, by rw [e2]; rfl, by rw [e2]; exact Reads.of_own hown, hbw⟩

theorem index_any (A : Option Addr) (n c : Nat) (zs : List Int) (x : Int) (B : Nat) (w : World) (hr : Reads w B 1 A n (ints zs)) (hn : Small n) :
    Calls Try.prog 49 #[.slice A n c, .int .i64 x] w fun e w' => (∃ i : Int, e = .returned (.int .i64 i) ∧ -1 ≤ i ∧ (0 ≤ i ↔ x ∈ zs)) ∧ w = w' := by
  have HL := Lib.hid hr.ints_len
  unfold Small at hn
  go_enter Try.func49, Try.ntmps49
  go_wp2
  go_loop [5, 8] (fun _ i => ∃ k : Nat, k ≤ n ∧ i = .int .i64 k ∧ x ∉ zs.take k) (fun _ i => n - (intOf i).toNat)
  case atStart => exact ⟨0, by omega, rfl, by simp⟩
  case round =>
    obtain ⟨k, hk, rfl, ht⟩ := hrel
    have HT := Lib.hid ht
    clear ht
    by_cases hkn : k < n
    · obtain ⟨ad, z, rfl, hb, hz, hc⟩ := hr.int_at hkn
      have HZ := Lib.hid hz
      clear hz
      by_cases hzx : x = z
      · obtain rfl := hzx
        go_wp2
        go_ret
        exact ⟨⟨k, rfl, by omega, by simp; exact List.mem_of_getElem? HZ.out⟩, rfl⟩
      · have hne : (x == z) = false := by simpa using hzx
        go_wp2
        go_round
        case rel => exact ⟨k + 1, by omega, by go_num, by rw [take_succ_of HZ.out, List.mem_append, not_or]; exact ⟨HT.out, by simpa using hzx⟩⟩
        case measure => simp [intOf]; omega
    · go_wp2
      go_ret
      refine ⟨⟨-1, rfl, by omega, ?_⟩, rfl⟩
      have h2 := HT.out
      rw [List.take_of_length_le (by rw [HL.out]; omega)] at h2
      simp [h2]

theorem contains_any (A : Option Addr) (n c : Nat) (zs : List Int) (x : Int) (B : Nat) (w : World) (hr : Reads w B 1 A n (ints zs)) (hn : Small n) :
    Calls Try.prog 31 #[.slice A n c, .int .i64 x] w fun e w' => e = .returned (.bool (decide (x ∈ zs))) ∧ w = w' := by
  go_enter Try.func31, Try.ntmps31
  go_wp2_with fail
  refine (index_any A n c zs x B _ hr hn).mono ?_
  rintro e w' ⟨⟨i, rfl, hi, hm⟩, rfl⟩
  have HM := Lib.hid hm
  clear hm
  go_wp2
  go_ret
  exact ⟨ret_bool (decide_eq_decide.2 HM.out), rfl⟩
end Go.Proofs.Ytkoenjnjkapfmaa
