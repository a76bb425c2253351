/- What walk.Rank and walk.Many answer. -/
import Derived.Test.YtkoenjnjkapfmaaWalkLaw
namespace Go.Proofs.Ytkoenjnjkapfmaa
open Go.RowKit

theorem val_snoc (a : List UInt8) (c : UInt8) : ∀ l : List UInt8, val a (l ++ [c]) = val a l * a.length + idx a c
  | [] => by simp [val]
  | d :: l => by
    show val a (d :: (l ++ [c])) = _
    rw [val, val, val_snoc a c l, List.length_append, List.length_singleton, Nat.pow_succ, Nat.add_mul]
    have : idx a d * (a.length ^ l.length * a.length) = idx a d * a.length ^ l.length * a.length := by rw [Nat.mul_assoc]
    omega
theorem overA_take {a l : List UInt8} (h : OverA a l) (k : Nat) : OverA a (l.take k) := fun c hc => h c (List.mem_of_mem_take hc)
theorem val_take_le {a l : List UInt8} (ha : a.length ≤ 8) (hl : l.length ≤ 6) (h : OverA a l) (k : Nat) : val a (l.take k) ≤ 262144 := by
  have h1 := val_lt (overA_take h k)
  have h2 : a.length ^ (l.take k).length ≤ 8 ^ (l.take k).length := Nat.pow_le_pow_left ha _
  have h3 : (8 : Nat) ^ (l.take k).length ≤ 8 ^ 6 := Nat.pow_le_pow_right (by omega) (by rw [List.length_take]; omega)
  have h4 : (8 : Nat) ^ 6 = 262144 := by decide
  omega

theorem get_byte {s : ByteArray} {k : Nat} (h : k < s.size) : s.data.toList[k]? = some s[k] := by rw [List.getElem?_eq_getElem (by rw [size_list]; exact h)]; rfl

theorem rank_yes (a s : ByteArray) (w : World) (ha : a.size ≤ 140737488351232) (hs : s.size ≤ 140737488351232) (ho : OverOk a.data.toList s.data.toList) :
    Calls Try.prog 29 #[.string a, .string s] w fun e w' => e = .returned (.tuple #[.int .i64 (rank a.data.toList s.data.toList), .int .i64 0]) ∧ ∃ d, w' = w.drewN d := by
  have hla := size_list a
  have hls := size_list s
  have h8 : a.size ≤ 8 := by have := ho.1.2.1; omega
  have h6 : s.size ≤ 6 := by have := ho.2.1; omega
  have HLA := Lib.hid hla
  have HLS := Lib.hid hls
  have HO := Lib.hid ho
  clear hla hls ho
  go_enter Try.func29, Try.ntmps29
  go_wp2_with fail
  refine (over_any a s _ ha hs).mono ?_
  rintro e w' ⟨⟨n, rfl, hn⟩, d, rfl⟩
  obtain rfl := hn.2 HO.out
  clear hn
  go_wp2_with fail
  go_loop [7, 8, 17] (fun v _ i => ∃ k V : Nat, k ≤ s.size ∧ i = .int .i64 k ∧ v = .int .i64 V ∧ V = val a.data.toList (s.data.toList.take k)) (fun _ _ i => s.size - (intOf i).toNat)
  case atStart => exact ⟨0, 0, by omega, rfl, rfl, by simp [val]⟩
  case round =>
    obtain ⟨k, V, hk, rfl, rfl, hV⟩ := hrel
    have HV := Lib.hid hV
    have hVb : V ≤ 262144 := by rw [hV]; exact val_take_le (by rw [HLA.out]; exact h8) (by rw [HLS.out]; exact h6) HO.out.2.2 k
    clear hV
    have hp : V * a.size ≤ 262144 * 8 := Nat.mul_le_mul hVb h8
    have hp1 : (0 : Int) ≤ (V : Int) * (a.size : Int) := by rw [← Int.natCast_mul]; omega
    have hp2 : (V : Int) * (a.size : Int) ≤ 2097152 := by rw [← Int.natCast_mul]; omega
    clear hp
    by_cases hkn : k < s.size
    · have hg := get_byte hkn
      have hm : s[k] ∈ a.data.toList := HO.out.2.2 _ (List.mem_of_getElem? hg)
      obtain ⟨hi1, _, hi2⟩ := idx_spec hm
      rw [HLA.out] at hi2
      have HG := Lib.hid hg
      have HI := Lib.hid hi1
      clear hg hm hi1
      go_wp2_with fail
      refine (indexByte_any _ _ _).mono ?_
      rintro e w' ⟨rfl, rfl⟩
      have hx : ((s[k].toNat : Nat) : Int).toNat.toUInt8 = s[k] := by simp
      rw [hx, HI.out]
      clear hx
      generalize hd : idx a.data.toList s[k] = D at hi2 ⊢
      have HD := Lib.hid hd
      clear hd
      go_wp2
      go_round
      case rel => exact ⟨k + 1, V * a.size + D, by omega, by go_num, by go_num, by rw [take_succ_of HG.out, val_snoc, ← HV.out, HD.out, HLA.out]⟩
      case measure => simp [intOf]; omega
    · obtain rfl : k = s.size := by omega
      go_wp2_with fail
      refine (shorter_any a s.size (by omega) h8 _).mono ?_
      rintro e w' ⟨rfl, rfl⟩
      have hsh := shN_le h8 s.size (by omega)
      have hr : rank a.data.toList s.data.toList = shN a.size s.size + V := by
        rw [HV.out, List.take_of_length_le (by rw [HLS.out]; omega), rank, HLA.out, HLS.out]
      have HR := Lib.hid hr
      clear hr
      generalize shN a.size s.size = S at hsh HR ⊢
      go_wp2
      go_ret2
      exact ⟨by rw [HR.out]; rfl, d, rfl⟩

theorem rank_no (a s : ByteArray) (w : World) (ha : a.size ≤ 140737488351232) (hs : s.size ≤ 140737488351232) (ho : ¬ OverOk a.data.toList s.data.toList) :
    Calls Try.prog 29 #[.string a, .string s] w fun e w' => (∃ n, e = .returned (.tuple #[.int .i64 0, .int .i64 n]) ∧ n ≠ 0) ∧ ∃ d, w' = w.drewN d := by
  have HO := Lib.hid ho
  clear ho
  go_enter Try.func29, Try.ntmps29
  go_wp2_with fail
  refine (over_any a s _ ha hs).mono ?_
  rintro e w' ⟨⟨n, rfl, hn⟩, d, rfl⟩
  have h0 : n ≠ 0 := fun h => HO.out (hn.1 h)
  have H0 := Lib.hid h0
  have hne : (n != 0) = true := by simpa using h0
  clear hn h0
  go_wp2
  go_ret2
  exact ⟨⟨n, rfl, H0.out⟩, d, rfl⟩

theorem many_any (a : ByteArray) (n : Int) (w : World) (ha : a.size ≤ 140737488351232) (hn : I64 n) :
    Calls Try.prog 28 #[.string a, .int .i64 n] w fun e w' => (∃ m x : Int, e = .returned (.tuple #[.int .i64 m, .int .i64 x]) ∧
      ((x = 0 ∧ AlphaOk a.data.toList ∧ ∃ k : Nat, n = k ∧ k ≤ 6 ∧ m = shN a.size (k + 1)) ∨ (x ≠ 0 ∧ m = 0 ∧ (AlphaOk a.data.toList → n < 0 ∨ 6 < n)))) ∧ ∃ d, w' = w.drewN d := by
  have hla := size_list a
  have HLA := Lib.hid hla
  clear hla
  obtain ⟨n1, n2⟩ := hn
  by_cases hao : AlphaOk a.data.toList
  · have h8 : a.size ≤ 8 := by have := hao.2.1; have := HLA.out; omega
    have HAO := Lib.hid hao
    clear hao
    by_cases hr : n < 0 ∨ 6 < n
    · have HR := Lib.hid hr
      have hr' : n < 0 ∨ ¬ n ≤ 6 := by omega
      by_cases hr1 : n < 0
      all_goals
        go_enter Try.func28, Try.ntmps28
        go_wp2_with fail
        refine (alpha_any a _ ha).mono ?_
        rintro e w' ⟨⟨x, rfl, hx⟩, d, rfl⟩
        obtain rfl := hx.2 HAO.out
        clear hx
        go_wp2
        go_ret2
        exact ⟨⟨0, 1, rfl, .inr ⟨by omega, rfl, fun _ => HR.out⟩⟩, d, rfl⟩
    · obtain ⟨k, rfl⟩ := Int.eq_ofNat_of_zero_le (show 0 ≤ n by omega)
      have hk : k ≤ 6 := by omega
      go_enter Try.func28, Try.ntmps28
      go_wp2_with fail
      refine (alpha_any a _ ha).mono ?_
      rintro e w' ⟨⟨x, rfl, hx⟩, d, rfl⟩
      obtain rfl := hx.2 HAO.out
      clear hx
      go_wp2_with fail
      refine (shorter_any a (k + 1) (by omega) h8 _).mono ?_
      rintro e w' ⟨rfl, rfl⟩
      generalize hS : shN a.size (k + 1) = S
      have HS := Lib.hid hS
      clear hS
      go_wp2
      go_ret2
      exact ⟨⟨S, 0, rfl, .inl ⟨rfl, HAO.out, k, rfl, hk, by rw [HS.out]⟩⟩, d, rfl⟩
  · have HAO := Lib.hid hao
    clear hao
    go_enter Try.func28, Try.ntmps28
    go_wp2_with fail
    refine (alpha_any a _ ha).mono ?_
    rintro e w' ⟨⟨x, rfl, hx⟩, d, rfl⟩
    have h0 : x ≠ 0 := fun h => HAO.out (hx.1 h)
    have H0 := Lib.hid h0
    have hne : (x != 0) = true := by simpa using h0
    clear hx h0
    go_wp2
    go_ret2
    exact ⟨⟨0, x, rfl, .inr ⟨H0.out, rfl, fun h => absurd h HAO.out⟩⟩, d, rfl⟩
end Go.Proofs.Ytkoenjnjkapfmaa
