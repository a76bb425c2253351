/- What walk.shorter and walk.Over answer. -/
import Derived.Test.YtkmcnekjimobhaaGA
import Derived.Laws.IdiomStrings
import Derived.ArgAppend
namespace Go.Proofs.Ytkmcnekjimobhaa
open Go.RowKit

/-- how many texts of m signs are shorter than n -/
def shN (m : Nat) : Nat → Nat
  | 0 => 0
  | n + 1 => shN m n + m ^ n
theorem pow_le_8 {m n : Nat} (hm : m ≤ 8) (hn : n ≤ 7) : m ^ n ≤ 2097152 := by
  have h1 : m ^ n ≤ 8 ^ n := Nat.pow_le_pow_left hm n
  have h2 : (8 : Nat) ^ n ≤ 8 ^ 7 := Nat.pow_le_pow_right (by omega) hn
  have h3 : (8 : Nat) ^ 7 = 2097152 := by decide
  omega
theorem shN_le {m : Nat} (hm : m ≤ 8) : ∀ n, n ≤ 7 → shN m n ≤ n * 2097152
  | 0, _ => by simp [shN]
  | n + 1, h => by
    have h1 := shN_le hm n (by omega)
    have h2 := pow_le_8 hm (show n ≤ 7 by omega)
    rw [shN]; omega

set_option maxRecDepth 100000 in
theorem shorter_any (a : ByteArray) (n : Nat) (hn : n ≤ 7) (ha : a.size ≤ 8) (w : World) :
    Calls Try.prog 123 #[.string a, .int .i64 n] w fun e w' => e = .returned (.int .i64 (shN a.size n)) ∧ w = w' := by
  go_enter Try.func123, Try.ntmps123
  go_wp2
  go_loop [5, 6, 8] (fun o m i => ∃ k O M : Nat, k ≤ n ∧ i = .int .i64 k ∧ o = .int .i64 O ∧ m = .int .i64 M ∧ O = shN a.size k ∧ M = a.size ^ k) (fun _ _ i => n - (intOf i).toNat)
  case atStart => exact ⟨0, 0, 1, by omega, rfl, rfl, rfl, rfl, rfl⟩
  case round =>
    obtain ⟨k, O, M, hk, rfl, rfl, rfl, hO, hM⟩ := hrel
    have hOb : O ≤ 20000000 := by have := shN_le ha k (by omega); omega
    have hMb : M ≤ 2097152 := by have := pow_le_8 ha (show k ≤ 7 by omega); omega
    have hp : M * a.size ≤ 2097152 * 8 := Nat.mul_le_mul hMb ha
    have hp1 : (0 : Int) ≤ (M : Int) * (a.size : Int) := by rw [← Int.natCast_mul]; omega
    have hp2 : (M : Int) * (a.size : Int) ≤ 16777216 := by rw [← Int.natCast_mul]; omega
    have HO := Lib.hid hO
    have HM := Lib.hid hM
    clear hO hM hp
    by_cases hkn : k < n
    · go_wp2
      go_round
      case rel => exact ⟨k + 1, O + M, M * a.size, by omega, by go_num, by go_num, by go_num, by rw [HO.out, HM.out]; rfl, by rw [HM.out]; rfl⟩
      case measure => simp [intOf]; omega
    · obtain rfl : k = n := by omega
      go_wp2
      go_ret
      exact ⟨ret_int (by rw [HO.out]), rfl⟩
def OverOk (a s : List UInt8) : Prop := AlphaOk a ∧ s.length ≤ 6 ∧ ∀ c ∈ s, c ∈ a
theorem index_mem {l : List UInt8} {c : UInt8} : 0 ≤ Lib.indexByte l c ↔ c ∈ l := by
  induction l with
  | nil => simp [Lib.indexByte]
  | cons b l ih =>
    unfold Lib.indexByte
    have hg := Lib.indexByte_ge l c
    by_cases hbc : b = c
    · subst hbc; simp
    · have hbc' : (b == c) = false := by simpa using hbc
      rw [hbc', if_neg (by decide)]
      split
      · rename_i h1
        have h1' : Lib.indexByte l c = -1 := by simpa using h1
        have h2 : ¬ c ∈ l := fun h => by have := ih.2 h; omega
        simp [h2, Ne.symm hbc]
      · rename_i h1
        have h1' : ¬ Lib.indexByte l c = -1 := by simpa using h1
        have h2 : c ∈ l := ih.1 (by omega)
        simp [h2]; omega
set_option maxRecDepth 100000 in
theorem over_any (a s : ByteArray) (w : World) (ha : a.size ≤ 140737488351232) (hs : s.size ≤ 140737488351232) :
    Calls Try.prog 107 #[.string a, .string s] w fun e w' => (∃ n, e = .returned (.int .i64 n) ∧ (n = 0 ↔ OverOk a.data.toList s.data.toList)) ∧ ∃ d, w' = w.drewN d := by
  have HA := Lib.hid (size_list a)
  have HS := Lib.hid (size_list s)
  go_enter Try.func107, Try.ntmps107
  go_wp2_with fail
  refine (alpha_any a _ ha).mono ?_
  rintro e w' ⟨⟨n, rfl, hn⟩, d, rfl⟩
  have HN := Lib.hid hn
  clear hn
  by_cases hn0 : n = 0
  · obtain rfl := hn0
    by_cases h6 : 6 < s.size
    · go_wp2
      go_ret
      exact ⟨⟨2, rfl, by simp; exact fun h => by have := h.2.1; rw [HS.out] at this; omega⟩, d, rfl⟩
    · go_wp2_with fail
      go_loop [6, 17] (fun _ i => ∃ k : Nat, k ≤ s.size ∧ i = .int .i64 k ∧ ∀ c ∈ s.data.toList.take k, c ∈ a.data.toList) (fun _ i => s.size - (intOf i).toNat)
      case atStart => exact ⟨0, by omega, rfl, by simp⟩
      case round =>
        obtain ⟨k, hk, rfl, hr⟩ := hrel
        have HR := Lib.hid hr
        clear hr
        by_cases hkn : k < s.size
        · have hg : s.data.toList[k]? = some s[k] := by rw [List.getElem?_eq_getElem (by rw [size_list]; exact hkn)]; rfl
          have HG := Lib.hid hg
          clear hg
          go_wp2_with fail
          refine (indexByte_any _ _ _).mono ?_
          rintro e w' ⟨rfl, rfl⟩
          have hx : ((s[k].toNat : Nat) : Int).toNat.toUInt8 = s[k] := by simp
          rw [hx]
          clear hx
          by_cases hin : s[k] ∈ a.data.toList
          · have hi : 0 ≤ Lib.indexByte a.data.toList s[k] := index_mem.2 hin
            have HI := Lib.hid hin
            clear hin
            go_wp2_with fail
            go_round
            case rel => exact ⟨k + 1, by omega, by go_num, fun c hc => by
              rw [take_succ_of HG.out] at hc
              rcases List.mem_append.1 hc with hc | hc
              · exact HR.out c hc
              · rw [List.mem_singleton.1 hc]; exact HI.out⟩
            case measure => simp [intOf]; omega
          · have hi : Lib.indexByte a.data.toList s[k] < 0 := by
              rcases Int.lt_or_le (Lib.indexByte a.data.toList s[k]) 0 with h | h
              · exact h
              · exact absurd (index_mem.1 h) hin
            have HI := Lib.hid hin
            clear hin
            go_wp2_with fail
            go_ret
            exact ⟨⟨12, rfl, by simp; exact fun h => absurd (h.2.2 _ (List.mem_of_getElem? HG.out)) HI.out⟩, d, rfl⟩
        · obtain rfl : k = s.size := by omega
          go_wp2
          go_ret
          have h2 := HR.out
          rw [List.take_of_length_le (by rw [HS.out]; omega)] at h2
          exact ⟨⟨0, rfl, by simp; exact ⟨by have := HN.out; simpa using this, by rw [HS.out]; omega, h2⟩⟩, d, rfl⟩
  · have hne : (n != 0) = true := by simpa using hn0
    have H0 := Lib.hid hn0
    clear hn0
    go_wp2
    go_ret
    exact ⟨⟨n, rfl, ⟨fun h => absurd h H0.out, fun h => absurd (HN.out.2 h.1) H0.out⟩⟩, d, rfl⟩
end Go.Proofs.Ytkmcnekjimobhaa

/- Plain laws of texts of an alphabet and their ranks. -/
namespace Go.Proofs.Ytkmcnekjimobhaa
open Go.RowKit

def idx (a : List UInt8) (c : UInt8) : Nat := (Lib.indexByte a c).toNat
theorem idx_spec {a : List UInt8} {c : UInt8} (h : c ∈ a) : Lib.indexByte a c = (idx a c : Int) ∧ a[idx a c]? = some c ∧ idx a c < a.length := by
  have h0 : 0 ≤ Lib.indexByte a c := index_mem.2 h
  have h1 : Lib.indexByte a c = (idx a c : Int) := by unfold idx; omega
  have h2 := (Lib.indexByte_some h1).1
  exact ⟨h1, h2, getElem?_lt h2⟩
theorem rises_lt {a : List UInt8} (h : Rises a a.length) : ∀ (j i : Nat), i < j → j < a.length → bt a i < bt a j
  | 0, i, h1, _ => by omega
  | j + 1, i, h1, h2 => by
    have hs := h (j + 1) (by omega) h2
    rw [Nat.add_sub_cancel] at hs
    by_cases hij : i = j
    · subst hij; exact hs
    · exact Nat.lt_trans (rises_lt h j i (by omega) (by omega)) hs
theorem bt_get {a : List UInt8} {i : Nat} {c : UInt8} (h : a[i]? = some c) : bt a i = c.toNat := by
  unfold bt; rw [List.getD_eq_getElem?_getD, h]; rfl
theorem idx_lt {a : List UInt8} (ha : AlphaOk a) {c d : UInt8} (hc : c ∈ a) (hd : d ∈ a) : idx a c < idx a d ↔ c < d := by
  obtain ⟨_, gc, lc⟩ := idx_spec hc
  obtain ⟨_, gd, ld⟩ := idx_spec hd
  have bc := bt_get gc
  have bd := bt_get gd
  rw [UInt8.lt_iff_toNat_lt]
  rcases Nat.lt_trichotomy (idx a c) (idx a d) with h | h | h
  · have := rises_lt ha.2.2 _ _ h ld; omega
  · rw [h] at bc; omega
  · have := rises_lt ha.2.2 _ _ h lc; omega
theorem idx_inj {a : List UInt8} {c d : UInt8} (hc : c ∈ a) (hd : d ∈ a) (h : idx a c = idx a d) : c = d := by
  have h1 := (idx_spec hc).2.1
  have h2 := (idx_spec hd).2.1
  rw [h, h2] at h1
  exact (Option.some.inj h1).symm

/-- the number that a text says -/
def val (a : List UInt8) : List UInt8 → Nat
  | [] => 0
  | c :: l => idx a c * a.length ^ l.length + val a l
def OverA (a l : List UInt8) : Prop := ∀ c ∈ l, c ∈ a
theorem OverA.tail {a l : List UInt8} {c : UInt8} (h : OverA a (c :: l)) : c ∈ a ∧ OverA a l := ⟨h c (by simp), fun d hd => h d (by simp [hd])⟩
theorem val_lt {a : List UInt8} : ∀ {l : List UInt8}, OverA a l → val a l < a.length ^ l.length
  | [], _ => by simp [val]
  | c :: l, h => by
    obtain ⟨hc, hl⟩ := h.tail
    have h1 := val_lt hl
    have h2 := (idx_spec hc).2.2
    rw [val, List.length_cons, Nat.pow_succ]
    have h3 : (idx a c + 1) * a.length ^ l.length ≤ a.length * a.length ^ l.length := Nat.mul_le_mul_right _ h2
    rw [Nat.add_mul, Nat.one_mul] at h3
    rw [Nat.mul_comm (a.length ^ l.length)]
    omega
theorem val_cmp {a : List UInt8} (ha : AlphaOk a) : ∀ {l t : List UInt8}, OverA a l → OverA a t → l.length = t.length → (val a l < val a t ↔ l < t)
  | [], [], _, _, _ => by simp [val]
  | [], _ :: _, _, _, h => by simp at h
  | _ :: _, [], _, _, h => by simp at h
  | c :: l, d :: t, hl, ht, h => by
    obtain ⟨hc, hl'⟩ := hl.tail
    obtain ⟨hd, ht'⟩ := ht.tail
    have hlen : l.length = t.length := by simpa using h
    have ih := val_cmp ha hl' ht' hlen
    have v1 := val_lt hl'
    have v2 := val_lt ht'
    rw [List.cons_lt_cons_iff, val, val, hlen]
    rw [hlen] at v1
    generalize a.length ^ t.length = p at *
    rcases Nat.lt_trichotomy (idx a c) (idx a d) with h1 | h1 | h1
    · have h2 : (idx a c + 1) * p ≤ idx a d * p := Nat.mul_le_mul_right _ h1
      rw [Nat.add_mul, Nat.one_mul] at h2
      have := (idx_lt ha hc hd).1 h1
      exact ⟨fun _ => .inl this, fun _ => by omega⟩
    · obtain rfl := idx_inj hc hd h1
      constructor
      · intro h2; exact .inr ⟨rfl, ih.1 (by omega)⟩
      · rintro (h2 | ⟨_, h2⟩)
        · exact absurd h2 (UInt8.lt_irrefl c)
        · have := ih.2 h2; omega
    · have h2 : (idx a d + 1) * p ≤ idx a c * p := Nat.mul_le_mul_right _ h1
      rw [Nat.add_mul, Nat.one_mul] at h2
      have h3 := (idx_lt ha hd hc).1 h1
      constructor
      · intro h4; omega
      · rintro (h4 | ⟨h4, _⟩)
        · exact absurd (UInt8.lt_trans h3 h4) (UInt8.lt_irrefl d)
        · subst h4; exact absurd h1 (by omega)
theorem val_inj {a : List UInt8} : ∀ {l t : List UInt8}, OverA a l → OverA a t → l.length = t.length → val a l = val a t → l = t
  | [], [], _, _, _, _ => rfl
  | [], _ :: _, _, _, h, _ => by simp at h
  | _ :: _, [], _, _, h, _ => by simp at h
  | c :: l, d :: t, hl, ht, h, he => by
    obtain ⟨hc, hl'⟩ := hl.tail
    obtain ⟨hd, ht'⟩ := ht.tail
    have hlen : l.length = t.length := by simpa using h
    have v1 := val_lt hl'
    have v2 := val_lt ht'
    rw [val, val, hlen] at he
    rw [hlen] at v1
    generalize a.length ^ t.length = p at *
    have h1 : idx a c = idx a d := by
      rcases Nat.lt_trichotomy (idx a c) (idx a d) with h1 | h1 | h1
      · have h2 : (idx a c + 1) * p ≤ idx a d * p := Nat.mul_le_mul_right _ h1
        rw [Nat.add_mul, Nat.one_mul] at h2; omega
      · exact h1
      · have h2 : (idx a d + 1) * p ≤ idx a c * p := Nat.mul_le_mul_right _ h1
        rw [Nat.add_mul, Nat.one_mul] at h2; omega
    obtain rfl := idx_inj hc hd h1
    rw [val_inj hl' ht' hlen (by omega)]

/-- the rank of a text -/
def rank (a l : List UInt8) : Nat := shN a.length l.length + val a l
theorem shN_mono {m i j : Nat} (h : i ≤ j) : shN m i ≤ shN m j := by
  induction j with
  | zero => obtain rfl : i = 0 := by omega
            exact Nat.le_refl _
  | succ j ih =>
    by_cases hij : i = j + 1
    · subst hij; exact Nat.le_refl _
    · have := ih (by omega)
      rw [shN]; omega
theorem rank_bd {a l : List UInt8} (h : OverA a l) : shN a.length l.length ≤ rank a l ∧ rank a l < shN a.length (l.length + 1) := by
  have := val_lt h
  unfold rank
  rw [shN]
  omega
theorem rank_len {a l t : List UInt8} (hl : OverA a l) (ht : OverA a t) (h : l.length < t.length) : rank a l < rank a t := by
  have h1 := rank_bd hl
  have h2 := rank_bd ht
  have h3 := shN_mono (m := a.length) (show l.length + 1 ≤ t.length by omega)
  omega
theorem rank_cmp {a l t : List UInt8} (ha : AlphaOk a) (hl : OverA a l) (ht : OverA a t) : rank a l < rank a t ↔ l.length < t.length ∨ l.length = t.length ∧ l < t := by
  rcases Nat.lt_trichotomy l.length t.length with h | h | h
  · exact ⟨fun _ => .inl h, fun _ => rank_len hl ht h⟩
  · have := val_cmp ha hl ht h
    unfold rank
    rw [h]
    constructor
    · intro h1; exact .inr ⟨rfl, this.1 (by omega)⟩
    · rintro (h1 | ⟨_, h1⟩)
      · omega
      · have := this.2 h1; omega
  · have := rank_len ht hl h
    constructor
    · intro h1; omega
    · rintro (h1 | ⟨h1, _⟩) <;> omega
theorem rank_inj {a l t : List UInt8} (hl : OverA a l) (ht : OverA a t) (h : rank a l = rank a t) : l = t := by
  rcases Nat.lt_trichotomy l.length t.length with h1 | h1 | h1
  · have := rank_len hl ht h1; omega
  · refine val_inj hl ht h1 ?_
    unfold rank at h
    rw [h1] at h
    omega
  · have := rank_len ht hl h1; omega
end Go.Proofs.Ytkmcnekjimobhaa

/- What walk.Rank and walk.Many answer. -/
namespace Go.Proofs.Ytkmcnekjimobhaa
open Go.RowKit

theorem val_snoc (a : List UInt8) (c : UInt8) : ∀ l : List UInt8, val a (l ++ [c]) = val a l * a.length + idx a c
  | [] => by simp [val]
  | d :: l => by
    show val a (d :: (l ++ [c])) = _
    rw [val, val, val_snoc a c l, List.length_append, List.length_singleton, Nat.pow_succ, Nat.add_mul]
    have : idx a d * (a.length ^ l.length * a.length) = idx a d * a.length ^ l.length * a.length := by rw [Nat.mul_assoc]
    omega
theorem overA_take {a l : List UInt8} (h : OverA a l) (k : Nat) : OverA a (l.take k) := fun c hc => h c (List.mem_of_mem_take hc)
theorem val_take_le {a l : List UInt8} (ha : a.length ≤ 8) (hl : l.length ≤ 6) (h : OverA a l) (k : Nat) : val a (l.take k) ≤ 262144 := by
  have h1 := val_lt (overA_take h k)
  have h2 : a.length ^ (l.take k).length ≤ 8 ^ (l.take k).length := Nat.pow_le_pow_left ha _
  have h3 : (8 : Nat) ^ (l.take k).length ≤ 8 ^ 6 := Nat.pow_le_pow_right (by omega) (by rw [List.length_take]; omega)
  have h4 : (8 : Nat) ^ 6 = 262144 := by decide
  omega


set_option maxRecDepth 100000 in
theorem many3_any (a : ByteArray) (n : Int) (w : World) (ha : a.size ≤ 140737488351232) (hn : I64 n) :
    Calls Try.prog 99 #[.string a, .int .i64 n] w fun e w' => (∃ m x : Int, e = .returned (.tuple #[.int .i64 m, .int .i64 x]) ∧
      ((x = 0 ∧ AlphaOk a.data.toList ∧ ∃ k : Nat, n = k ∧ k ≤ 6 ∧ m = shN a.size (k + 1)) ∨ (x ≠ 0 ∧ m = 0 ∧ (AlphaOk a.data.toList → n < 0 ∨ 6 < n))) ∧ x ≠ 11) ∧ ∃ d, w' = w.drewN d := by
  have hla := size_list a
  have HLA := Lib.hid hla
  clear hla
  obtain ⟨n1, n2⟩ := hn
  by_cases hao : AlphaOk a.data.toList
  · have h8 : a.size ≤ 8 := by have := hao.2.1; have := HLA.out; omega
    have HAO := Lib.hid hao
    clear hao
    by_cases hr : n < 0 ∨ 6 < n
    · have HR := Lib.hid hr
      have hr' : n < 0 ∨ ¬ n ≤ 6 := by omega
      by_cases hr1 : n < 0
      all_goals
        go_enter Try.func99, Try.ntmps99
        go_wp2_with fail
        refine (alpha3_any a _ ha).mono ?_
        rintro e w' ⟨⟨x, rfl, hx, -⟩, d, rfl⟩
        obtain rfl := hx.2 HAO.out
        clear hx
        go_wp2
        go_ret2
        exact ⟨⟨0, 1, rfl, .inr ⟨by omega, rfl, fun _ => HR.out⟩, by decide⟩, d, rfl⟩
    · obtain ⟨k, rfl⟩ := Int.eq_ofNat_of_zero_le (show 0 ≤ n by omega)
      have hk : k ≤ 6 := by omega
      go_enter Try.func99, Try.ntmps99
      go_wp2_with fail
      refine (alpha3_any a _ ha).mono ?_
      rintro e w' ⟨⟨x, rfl, hx, -⟩, d, rfl⟩
      obtain rfl := hx.2 HAO.out
      clear hx
      go_wp2_with fail
      refine (shorter_any a (k + 1) (by omega) h8 _).mono ?_
      rintro e w' ⟨rfl, rfl⟩
      generalize hS : shN a.size (k + 1) = S
      have HS := Lib.hid hS
      clear hS
      go_wp2
      go_ret2
      exact ⟨⟨S, 0, rfl, .inl ⟨rfl, HAO.out, k, rfl, hk, by rw [HS.out]⟩, by decide⟩, d, rfl⟩
  · have HAO := Lib.hid hao
    clear hao
    go_enter Try.func99, Try.ntmps99
    go_wp2_with fail
    refine (alpha3_any a _ ha).mono ?_
    rintro e w' ⟨⟨x, rfl, hx, h11⟩, d, rfl⟩
    have H11 := Lib.hid h11
    have h0 : x ≠ 0 := fun h => HAO.out (hx.1 h)
    have H0 := Lib.hid h0
    have hne : (x != 0) = true := by simpa using h0
    clear hx h0 h11
    go_wp2
    go_ret2
    exact ⟨⟨0, x, rfl, .inr ⟨H0.out, rfl, fun h => absurd h HAO.out⟩, H11.out⟩, d, rfl⟩
theorem many_any (a : ByteArray) (n : Int) (w : World) (ha : a.size ≤ 140737488351232) (hn : I64 n) :
    Calls Try.prog 99 #[.string a, .int .i64 n] w fun e w' => (∃ m x : Int, e = .returned (.tuple #[.int .i64 m, .int .i64 x]) ∧
      ((x = 0 ∧ AlphaOk a.data.toList ∧ ∃ k : Nat, n = k ∧ k ≤ 6 ∧ m = shN a.size (k + 1)) ∨ (x ≠ 0 ∧ m = 0 ∧ (AlphaOk a.data.toList → n < 0 ∨ 6 < n)))) ∧ ∃ d, w' = w.drewN d :=
  (many3_any a n w ha hn).mono fun _ _ ⟨⟨m, x, h1, h2, _⟩, h3⟩ => ⟨⟨m, x, h1, h2⟩, h3⟩
end Go.Proofs.Ytkmcnekjimobhaa

/- Rows of bytes: what []byte(s) lays, and a block whose frozen mark lies behind its cells. -/
namespace Go.Proofs.Ytkmcnekjimobhaa
open Go.RowKit

/-- block g is just these cells, none of them frozen (a mark may lie behind them) -/
def BlkZ (w : World) (g : Nat) (t : TypeId) (cs : Array Value) : Prop := ∃ lo hi, w.heap[g]? = some (.cells cs t (lo, hi)) ∧ (cs.size ≤ lo ∨ hi ≤ lo)
section
variable {w w' : World} {g : Nat} {t : TypeId} {cs : Array Value}
theorem BlkZ.of (h : Blk w g t cs) : BlkZ w g t cs := ⟨0, 0, h, .inr (Nat.le_refl _)⟩
theorem BlkZ.lt (h : BlkZ w g t cs) : g < w.heap.size := by
  obtain ⟨lo, hi, h, _⟩ := h
  exact (Array.getElem?_eq_some_iff.1 h).1
theorem BlkZ.cell (h : BlkZ w g t cs) (i : Nat) : w.cell? ⟨g, i, none⟩ = cs[i]? := by
  obtain ⟨lo, hi, h, _⟩ := h
  exact cell_of_row w g i cs t (lo, hi) h
theorem BlkZ.frozen (h : BlkZ w g t cs) {i : Nat} (hi : i < cs.size) : w.frozen? ⟨g, i, none⟩ = false := by
  obtain ⟨lo, hi', h, h'⟩ := h
  simp only [World.frozen?, h]
  rcases h' with h' | h'
  · have : ¬ lo ≤ i := by omega
    simp [this]
  · by_cases hlo : lo ≤ i
    · have : ¬ i < hi' := by omega
      simp [this]
    · simp [hlo]
theorem BlkZ.drewN (h : BlkZ w g t cs) (n : Nat) : BlkZ (w.drewN n) g t cs := h
theorem BlkZ.drew (h : BlkZ w g t cs) : BlkZ w.drew g t cs := h
theorem BlkZ.below {B : Nat} (h : BlkZ w g t cs) (hb : Below B w w') (hg : g < B) : BlkZ w' g t cs := by
  obtain ⟨lo, hi, h, h'⟩ := h
  exact ⟨lo, hi, (hb.block g hg).trans h, h'⟩
theorem BlkZ.alloc (h : BlkZ w g t cs) (o : Obj) : BlkZ (w.alloc o) g t cs := by
  have hlt := h.lt
  obtain ⟨lo, hi, h, h'⟩ := h
  exact ⟨lo, hi, (Below.heap_alloc w o g hlt).trans h, h'⟩
theorem BlkZ.set_ (h : BlkZ w g t cs) (i : Nat) (u : Value) : BlkZ (w.setCell ⟨g, i, none⟩ u) g t (cs.setIfInBounds i u) := by
  obtain ⟨lo, hi, h, h'⟩ := h
  refine ⟨lo, hi, ?_, by simpa using h'⟩
  simp [World.setCell, Array.getElem?_modify, h]
theorem BlkZ.far (h : BlkZ w g t cs) {p : Addr} (hp : g ≠ p.block) (u : Value) : BlkZ (w.setCell p u) g t cs := by
  obtain ⟨lo, hi, h, h'⟩ := h
  exact ⟨lo, hi, (Below.heap_setCell w p u g hp).trans h, h'⟩
end

/-- cells of bytes -/
def u8s (l : List UInt8) : List Value := l.map fun b => Value.int .u8 b.toNat
theorem u8s_length (l : List UInt8) : (u8s l).length = l.length := by simp [u8s]
theorem u8s_append (a b : List UInt8) : u8s (a ++ b) = u8s a ++ u8s b := by simp [u8s]
theorem u8s_get {l : List UInt8} {i : Nat} {b : UInt8} (h : l[i]? = some b) : (u8s l)[i]? = some (.int .u8 b.toNat) := by simp [u8s, h]
theorem u8s_one (l : List UInt8) : ∀ u ∈ u8s l, u.oneCell' = true := by
  intro u hu
  obtain ⟨z, _, rfl⟩ := List.mem_map.1 hu
  rfl
/-- what []byte(s) lays: a block of at least as many cells, of which the first hold s -/
theorem bytes_laid (w : World) (t : TypeId) (s : ByteArray) (C : Nat) (hC : s.size ≤ C) {g : Nat} (hg : g = w.heap.size) :
    BlkZ (w.alloc (.cells (bytesRow s C) t ((bytesRow s C).size, (bytesRow s C).size + 1))) g t (bytesRow s C) ∧ (bytesRow s C).toList.take s.size = u8s s.data.toList ∧ (bytesRow s C).size = C := by
  subst hg
  refine ⟨⟨_, _, heap_alloc_new w _, .inl (Nat.le_refl _)⟩, ?_, ?_⟩
  · unfold bytesRow u8s
    rw [Array.toList_append, List.take_append_of_le_length (by simp)]
    rw [List.take_of_length_le (by simp)]
    simp
  · simp [bytesRow]; omega
/-- string(b) of bytes that are known -/
theorem string_of {P : Program} {w : World} {src dst e : TypeId} {g n c : Nat} {cs : Array Value} {t : TypeId} {l : List UInt8} (hs : P.underlying src = some (.slice e)) (he : P.underlying e = some (.int .u8)) (hd : P.underlying dst = some .string)
    (h : BlkZ w g t cs) (hl : l.length = n) (ht : cs.toList.take n = u8s l) : (convert src dst (.slice (some ⟨g, 0, none⟩) n c)).run P w = .ok (.string ⟨l.toArray⟩) w := by
  subst hl
  refine run_convert_bytes_back w src dst e ⟨g, 0, none⟩ c l hs he hd fun j hj => ?_
  have hadd : (⟨g, 0, none⟩ : Addr).add j = ⟨g, j, none⟩ := by unfold Addr.add; split <;> simp_all
  rw [hadd, h.cell j, ← Array.getElem?_toList]
  have h1 : (cs.toList.take l.length)[j]? = (u8s l)[j]? := by rw [ht]
  rw [List.getElem?_take, if_pos hj] at h1
  rw [h1, u8s_get (List.getElem?_eq_getElem hj)]
end Go.Proofs.Ytkmcnekjimobhaa

/- What walk.Next answers. -/
namespace Go.Proofs.Ytkmcnekjimobhaa
open Go.RowKit

theorem idx_head {a : List UInt8} (h : AlphaOk a) {c : UInt8} (hc : a[0]? = some c) : idx a c = 0 := by
  cases a with
  | nil => cases hc
  | cons x a =>
    obtain rfl : x = c := by simpa using hc
    simp [idx, Lib.indexByte]
theorem idx_of {a : List UInt8} (h : AlphaOk a) {k : Nat} {c : UInt8} (hc : a[k]? = some c) : c ∈ a ∧ idx a c = k := by
  have hm := List.mem_of_getElem? hc
  refine ⟨hm, ?_⟩
  obtain ⟨_, g1, l1⟩ := idx_spec hm
  have b1 := bt_get g1
  have b2 := bt_get hc
  have lk := getElem?_lt hc
  rcases Nat.lt_trichotomy (idx a c) k with h1 | h1 | h1
  · have := rises_lt h.2.2 _ _ h1 lk; omega
  · exact h1
  · have := rises_lt h.2.2 _ _ h1 l1; omega
theorem val_append (a : List UInt8) : ∀ p q : List UInt8, val a (p ++ q) = val a p * a.length ^ q.length + val a q
  | [], q => by simp [val]
  | c :: p, q => by
    show val a (c :: (p ++ q)) = _
    rw [val, val, val_append a p q, List.length_append, Nat.pow_add, Nat.add_mul]
    have : idx a c * (a.length ^ p.length * a.length ^ q.length) = idx a c * a.length ^ p.length * a.length ^ q.length := by rw [Nat.mul_assoc]
    omega
theorem val_top {a : List UInt8} (hm : 0 < a.length) : ∀ q : List UInt8, (∀ c ∈ q, idx a c + 1 = a.length) → val a q + 1 = a.length ^ q.length
  | [], _ => by simp [val]
  | c :: q, h => by
    have ih := val_top hm q (fun d hd => h d (by simp [hd]))
    have hc := h c (by simp)
    rw [val, List.length_cons, Nat.pow_succ, Nat.mul_comm (a.length ^ q.length)]
    have : (idx a c + 1) * a.length ^ q.length = a.length * a.length ^ q.length := by rw [hc]
    rw [Nat.add_mul, Nat.one_mul] at this
    omega
theorem val_zeros {a : List UInt8} {z : UInt8} (hz : idx a z = 0) : ∀ n, val a (List.replicate n z) = 0
  | 0 => by simp [val]
  | n + 1 => by rw [List.replicate_succ, val, hz, val_zeros hz n]; simp
/-- one sign raised, all behind it at their end: the next number -/
theorem val_next {a : List UInt8} {p q : List UInt8} {c d z : UInt8} (hm : 0 < a.length) (hcd : idx a d = idx a c + 1) (hz : idx a z = 0) (hq : ∀ c ∈ q, idx a c + 1 = a.length) :
    val a (p ++ [d] ++ List.replicate q.length z) = val a (p ++ [c] ++ q) + 1 := by
  have h1 := val_top hm q hq
  simp only [val_append, val_zeros hz, List.length_replicate, val, List.length_nil, List.length_singleton, hcd]
  simp only [Nat.pow_zero, Nat.mul_one, Nat.add_zero, Nat.pow_one]
  generalize a.length ^ q.length = P at *
  rw [show val a p * a.length + (idx a c + 1) = (val a p * a.length + idx a c) + 1 by omega, Nat.add_mul, Nat.one_mul]
  omega
theorem overA_rep {a : List UInt8} {z : UInt8} (hz : z ∈ a) (n : Nat) : OverA a (List.replicate n z) := fun c hc => by rw [(List.mem_replicate.1 hc).2]; exact hz
theorem OverA.app {a p q : List UInt8} (hp : OverA a p) (hq : OverA a q) : OverA a (p ++ q) := fun c hc => by
  rcases List.mem_append.1 hc with h | h
  · exact hp c h
  · exact hq c h

/-- what walk.Next leaves of a text of the alphabet -/
def NextSays (a s : List UInt8) (w : World) (e : Ending) (w' : World) : Prop :=
  ((∃ u : ByteArray, e = .returned (.tuple #[.string u, .int .i64 0]) ∧ OverOk a u.data.toList ∧ rank a u.data.toList = rank a s + 1) ∨
    (e = .returned (.tuple #[.string ⟨#[]⟩, .int .i64 12]) ∧ s.length = 6 ∧ rank a s + 1 = shN a.length 7)) ∧ Below w.heap.size w w'

theorem set_take {l : List Value} {n j : Nat} {u : Value} {x y : List Value} (h : l.take n = x) (hxy : x.set j u = y) : (l.set j u).take n = y := by
  rw [List.take_set, h, hxy]
theorem u8s_set (l : List UInt8) (j : Nat) (b : UInt8) : (u8s l).set j (.int .u8 b.toNat) = u8s (l.set j b) := by simp [u8s, List.map_set]

theorem set_mid (x y : UInt8) (q : List UInt8) : ∀ {p : List UInt8} {j : Nat}, p.length = j → (p ++ [x] ++ q).set j y = p ++ [y] ++ q
  | [], 0, _ => rfl
  | c :: p, j + 1, h => by
    have := set_mid x y q (p := p) (j := j) (by simpa using h)
    show c :: (p ++ [x] ++ q).set j y = c :: (p ++ [y] ++ q)
    rw [this]

set_option maxRecDepth 100000 in
theorem next_bad (a s : ByteArray) (w : World) (ha : a.size ≤ 140737488351232) (hs : s.size ≤ 140737488351232) (ho : ¬ OverOk a.data.toList s.data.toList) :
    Calls Try.prog 101 #[.string a, .string s] w fun e w' => (∃ n, e = .returned (.tuple #[.string ⟨#[]⟩, .int .i64 n]) ∧ n ≠ 0) ∧ Below w.heap.size w w' := by
  have HO := Lib.hid ho
  clear ho
  go_enter Try.func101, Try.ntmps101
  go_wp2_with fail
  refine (over_any a s _ ha hs).mono ?_
  rintro e w' ⟨⟨n, rfl, hn⟩, d, rfl⟩
  have h0 : n ≠ 0 := fun h => HO.out (hn.1 h)
  have H0 := Lib.hid h0
  have hne : (n != 0) = true := by simpa using h0
  clear hn h0
  go_wp2
  go_ret2
  exact ⟨⟨n, rfl, H0.out⟩, below_drewN (Below.refl _ _) d⟩

theorem string_grown {w : World} {base g n c : Nat} {z : UInt8} (h : w.ownsRow base 5 1 (.slice (some ⟨g, 0, none⟩) (n + 1) c) (n + 1) (u8s (List.replicate n z) ++ [.int .u8 z.toNat])) :
    (convert 145 9 (.slice (some ⟨g, 0, none⟩) (n + 1) c)).run Try.prog w = .ok (.string ⟨(List.replicate (n + 1) z).toArray⟩) w := by
  rcases h.2 with ⟨h1, _⟩ | ⟨g', cap, cur, hv, _, hh, _, _, _, ht⟩
  · cases h1
  · simp only [Value.slice.injEq, Option.some.injEq, Addr.mk.injEq] at hv
    obtain ⟨⟨rfl, _⟩, _, _⟩ := hv
    refine string_of Try.underlying145 Try.underlying5 Try.underlying9 (BlkZ.of hh) (by simp) ?_
    rw [Nat.mul_one] at ht
    rw [ht, List.replicate_succ', u8s_append]
    rfl
theorem u8_info : (Try.prog.info? 5).map (fun i => (i.zero, i.size, i.bytes)) = some (some (.int .u8 0), 1, 1) := by kernel_rfl
set_option maxRecDepth 100000 in
set_option maxHeartbeats 1000000 in
theorem next_any (a s : ByteArray) (w : World) (ha : a.size ≤ 140737488351232) (hs : s.size ≤ 140737488351232) (ho : OverOk a.data.toList s.data.toList) :
    Calls Try.prog 101 #[.string a, .string s] w (NextSays a.data.toList s.data.toList w) := by
  have hla := size_list a
  have hls := size_list s
  have h8 : a.size ≤ 8 := by have := ho.1.2.1; omega
  have h6 : s.size ≤ 6 := by have := ho.2.1; omega
  have h1 : 0 < a.size := by
    have := ho.1.1
    rcases Nat.eq_zero_or_pos a.size with h | h
    · exact absurd (List.eq_nil_of_length_eq_zero (hla.trans h)) this
    · exact h
  obtain ⟨z, hz⟩ : ∃ z, a.data.toList[0]? = some z := ⟨_, List.getElem?_eq_getElem (by rw [hla]; exact h1)⟩
  have hza : a[0] = z := by have := get_byte h1; rw [this] at hz; exact Option.some.inj hz
  have hzi := idx_head ho.1 hz
  have HLA := Lib.hid hla
  have HLS := Lib.hid hls
  have HO := Lib.hid ho
  have HZ := Lib.hid hz
  have HZA := Lib.hid hza
  have HZI := Lib.hid hzi
  clear hla hls ho hz hza hzi
  have hcv := fun W => run_bytes_of_string (P := Try.prog) W 9 145 5 s Try.underlying9 Try.underlying145 Try.underlying5
  go_enter Try.func101, Try.ntmps101
  go_wp2_with fail
  refine (over_any a s _ ha hs).mono ?_
  rintro e w' ⟨⟨n, rfl, hn⟩, d, rfl⟩
  obtain rfl := hn.2 HO.out
  clear hn
  go_wp2_with fail
  have hC := grownCap_ge (w.drewN d) s.size 0 5
  generalize grownCap (w.drewN d) s.size 0 5 = C at hC ⊢
  clear hcv
  obtain ⟨hb0, ht0, hs0⟩ := bytes_laid w 5 s C hC rfl
  have hw0 : Below w.heap.size w (w.alloc (.cells (bytesRow s C) 5 ((bytesRow s C).size, (bytesRow s C).size + 1))) := (by repeat (first | exact Below.refl _ _ | assumption | refine Below.drew ?_ | refine below_drewN ?_ _ | refine Below.alloc ?_ (by first | omega | (simp; omega) | simp) _ | refine Below.setCell ?_ (by first | omega | (simp; omega) | simp) _))
  generalize bytesRow s C = R at hb0 ht0 hs0 hw0 ⊢
  have HT0 := Lib.hid ht0
  have HS0 := Lib.hid hs0
  clear ht0 hs0
  go_loopw [8, 9] (fun i _ wr => ∃ k : Nat, k ≤ s.size ∧ i = .int .i64 ((k : Int) - 1) ∧ (∀ c ∈ s.data.toList.drop k, idx a.data.toList c + 1 = a.size) ∧
    (∃ cs, BlkZ wr w.heap.size 5 cs ∧ cs.size = C ∧ cs.toList.take s.size = u8s (s.data.toList.take k ++ List.replicate (s.size - k) z)) ∧ Below w.heap.size w wr) (fun i _ _ => (intOf i + 1).toNat)
  case atStart =>
    refine ⟨s.size, Nat.le_refl _, rfl, ?_, ⟨R, hb0, HS0.out, ?_⟩, ?_⟩
    · rw [List.drop_of_length_le (by rw [HLS.out]; omega)]; simp
    · rw [HT0.out, List.take_of_length_le (l := s.data.toList) (by rw [HLS.out]; omega)]; simp
    · exact below_drewN hw0 _
  case round =>
    obtain ⟨k, hk, rfl, hmax, ⟨cs, hb, hcs, hct⟩, hbw⟩ := hrel
    have HM := Lib.hid hmax
    have HCS := Lib.hid hcs
    have HCT := Lib.hid hct
    clear hmax hcs hct hb0 hw0
    cases k with
    | succ j =>
      have hg := get_byte (show j < s.size by omega)
      have hm : s[j] ∈ a.data.toList := HO.out.2.2 _ (List.mem_of_getElem? hg)
      obtain ⟨hi1, hi3, hi2⟩ := idx_spec hm
      rw [HLA.out] at hi2
      have hji : ((j + 1 : Nat) : Int) - 1 = (j : Int) := by omega
      rw [hji]
      have HG := Lib.hid hg
      have HI := Lib.hid hi1
      have HI3 := Lib.hid hi3
      clear hg hm hi1 hi3 hji
      go_wp2_with fail
      refine (indexByte_any _ _ _).mono ?_
      rintro e w' ⟨rfl, rfl⟩
      have hx : ((s[j].toNat : Nat) : Int).toNat.toUInt8 = s[j] := by simp
      rw [hx, HI.out]
      clear hx
      generalize hd : idx a.data.toList s[j] = D at hi2 ⊢
      have HD := Lib.hid hd
      clear hd
      have hcell := hb.cell j
      have hfz := hb.frozen (show j < cs.size by rw [HCS.out]; omega)
      rw [Array.getElem?_eq_getElem (by rw [HCS.out]; omega)] at hcell
      generalize cs[j]'(by rw [HCS.out]; omega) = u0 at hcell
      by_cases hlt : D + 1 < a.size
      · have hgb := get_byte hlt
        have hset : (cs.setIfInBounds j (.int .u8 a[D + 1].toNat)).toList.take s.size = u8s (s.data.toList.take j ++ [a[D + 1]] ++ List.replicate (s.size - (j + 1)) z) := by
          rw [Array.toList_setIfInBounds]
          refine set_take HCT.out ?_
          rw [u8s_set, take_succ_of HG.out]
          congr 1
          have hlj : (s.data.toList.take j).length = j := by rw [List.length_take, HLS.out]; omega
          exact set_mid _ _ _ hlj
        have hl : (s.data.toList.take j ++ [a[D + 1]] ++ List.replicate (s.size - (j + 1)) z).length = s.size := by
          simp only [List.length_append, List.length_take, HLS.out, List.length_singleton, List.length_replicate]; omega
        have hstr := fun c => string_of (P := Try.prog) (c := c) Try.underlying145 Try.underlying5 Try.underlying9 (hb.set_ j (.int .u8 a[D + 1].toNat)) hl hset
        have hfin : OverOk a.data.toList (s.data.toList.take j ++ [a[D + 1]] ++ List.replicate (s.size - (j + 1)) z) ∧ rank a.data.toList (s.data.toList.take j ++ [a[D + 1]] ++ List.replicate (s.size - (j + 1)) z) = rank a.data.toList s.data.toList + 1 := by
          obtain ⟨hmb, hib⟩ := idx_of HO.out.1 hgb
          have hmz := (idx_of HO.out.1 HZ.out).1
          refine ⟨⟨HO.out.1, by rw [hl]; exact h6, OverA.app (OverA.app (overA_take HO.out.2.2 j) (fun c hc => by rw [List.mem_singleton.1 hc]; exact hmb)) (overA_rep hmz _)⟩, ?_⟩
          have hsp : s.data.toList = s.data.toList.take j ++ [s[j]] ++ s.data.toList.drop (j + 1) := by
            rw [← take_succ_of HG.out, List.take_append_drop]
          have hld : (s.data.toList.drop (j + 1)).length = s.size - (j + 1) := by rw [List.length_drop, HLS.out]
          have hv := val_next (p := s.data.toList.take j) (q := s.data.toList.drop (j + 1)) (c := s[j]) (d := a[D + 1]) (z := z) (by rw [HLA.out]; exact h1) (by rw [hib, HD.out]) HZI.out (by rw [HLA.out]; exact HM.out)
          rw [← hsp, hld] at hv
          unfold rank
          rw [hl, HLS.out, hv]
          omega
        have HSTR := Lib.hid hstr
        have HFIN := Lib.hid hfin
        clear hgb hset hl hstr hfin
        have hstr := HSTR.out C
        go_wp2
        go_ret2
        exact ⟨.inl ⟨_, rfl, by have h := HFIN.out; simpa using h⟩, hbw.setCell (Nat.le_refl _) _⟩
      · have hDa : D + 1 = a.size := by omega
        have hset : (cs.setIfInBounds j (.int .u8 z.toNat)).toList.take s.size = u8s (s.data.toList.take j ++ List.replicate (s.size - j) z) := by
          rw [Array.toList_setIfInBounds]
          refine set_take HCT.out ?_
          rw [u8s_set, take_succ_of HG.out]
          congr 1
          have hlj : (s.data.toList.take j).length = j := by rw [List.length_take, HLS.out]; omega
          rw [set_mid _ _ _ hlj, show s.size - j = (s.size - (j + 1)) + 1 by omega, List.replicate_succ]
          simp
        have HSET := Lib.hid hset
        have hza := HZA.out
        have hmx : ∀ c ∈ s.data.toList.drop j, idx a.data.toList c + 1 = a.size := by
          intro c hc
          rw [List.drop_eq_getElem_cons (by rw [HLS.out]; omega)] at hc
          rcases List.mem_cons.1 hc with rfl | hc
          · have : s.data.toList[j]'(by rw [HLS.out]; omega) = s[j] := by
              have := HG.out
              rw [List.getElem?_eq_getElem (by rw [HLS.out]; omega)] at this
              exact Option.some.inj this
            rw [this, HD.out]
            exact hDa
          · exact HM.out c hc
        have HMX := Lib.hid hmx
        clear hset hmx
        go_wp2
        go_roundw
        case rel => exact ⟨j, by omega, rfl, HMX.out, ⟨_, hb.set_ j _, by simp [HCS.out], HSET.out⟩, hbw.setCell (Nat.le_refl _) _⟩
        case measure => simp [intOf]
    | zero =>
      have htop : ∀ c ∈ s.data.toList, idx a.data.toList c + 1 = a.size := by simpa using HM.out
      have hv := val_top (a := a.data.toList) (by have := HLA.out; omega) s.data.toList (by rw [HLA.out]; exact htop)
      have HV := Lib.hid hv
      clear htop hv
      by_cases h66 : s.size = 6
      · have hr : rank a.data.toList s.data.toList + 1 = shN a.data.toList.length 7 := by
          have h2 := HV.out
          unfold rank
          rw [HLS.out, h66] at h2 ⊢
          rw [show shN a.data.toList.length 7 = shN a.data.toList.length 6 + a.data.toList.length ^ 6 from rfl]
          omega
        have HR := Lib.hid hr
        have HL6 := Lib.hid (HLS.out.trans h66)
        have h6b : ((s.size : Int) == 6) = true := by rw [beq_iff_eq]; omega
        clear hr
        go_wp2
        go_ret2
        exact ⟨.inr ⟨rfl, HL6.out, HR.out⟩, hbw⟩
      · have h6b : ((s.size : Int) == 6) = false := by simp; omega
        have hza := HZA.out
        have hct : cs.toList.take s.size = u8s (List.replicate s.size z) := by simpa using HCT.out
        have hfin : OverOk a.data.toList (List.replicate (s.size + 1) z) ∧ rank a.data.toList (List.replicate (s.size + 1) z) = rank a.data.toList s.data.toList + 1 := by
          have hmz := (idx_of HO.out.1 HZ.out).1
          refine ⟨⟨HO.out.1, by rw [List.length_replicate]; omega, overA_rep hmz _⟩, ?_⟩
          have h2 := HV.out
          unfold rank
          rw [val_zeros HZI.out, List.length_replicate, HLS.out, shN]
          rw [HLS.out] at h2
          omega
        have HCT2 := Lib.hid hct
        have HFIN := Lib.hid hfin
        have hsz := hbw.size
        obtain ⟨i0, hi0, hz0, hz1, hz2⟩ := info_parts u8_info
        have C1 : Hid (∀ j u, (u8s (List.replicate s.size z))[j]? = some u → (wr.alloc (.cells #[.int .u8 z.toNat] 5)).cell? ⟨w.heap.size, 0 + j, none⟩ = some u) := by
          intro j u hu
          have hj := getElem?_lt hu
          rw [u8s_length, List.length_replicate] at hj
          rw [Nat.zero_add, (hb.alloc _).cell j, ← Array.getElem?_toList, ← hu, ← HCT2.out, List.getElem?_take, if_pos hj]
        clear hct hfin
        by_cases hroom : s.size + 1 ≤ C
        · have C2 : Hid (s.size + 1 ≤ C → ∀ j, j < [Value.int .u8 z.toNat].length → ((wr.alloc (.cells #[.int .u8 z.toNat] 5)).cell? ⟨w.heap.size, 0 + s.size * 1 + j, none⟩).isSome = true ∧ (wr.alloc (.cells #[.int .u8 z.toNat] 5)).frozen? ⟨w.heap.size, 0 + s.size * 1 + j, none⟩ = false) := by
            intro _ j hj
            have hj0 : j = 0 := by simpa using hj
            subst hj0
            rw [Nat.zero_add, Nat.mul_one, Nat.add_zero]
            refine ⟨?_, (hb.alloc _).frozen (by rw [HCS.out]; omega)⟩
            rw [(hb.alloc _).cell, Array.getElem?_eq_getElem (by rw [HCS.out]; omega)]
            rfl
          have hstr : ∀ c, (convert 145 9 (.slice (some ⟨w.heap.size, 0, none⟩) (s.size + 1) c)).run Try.prog ((wr.alloc (.cells #[.int .u8 z.toNat] 5)).setCells w.heap.size s.size [.int .u8 z.toNat]) = .ok (.string ⟨(List.replicate (s.size + 1) z).toArray⟩) ((wr.alloc (.cells #[.int .u8 z.toNat] 5)).setCells w.heap.size s.size [.int .u8 z.toNat]) := by
            intro c
            refine string_of Try.underlying145 Try.underlying5 Try.underlying9 ((hb.alloc _).set_ s.size (.int .u8 z.toNat)) (by simp) ?_
            rw [Array.toList_setIfInBounds, List.take_add_one, List.take_set_of_le (Nat.le_refl _), HCT2.out, List.getElem?_set_self (by rw [Array.length_toList, HCS.out]; omega), List.replicate_succ', u8s_append]
            rfl
          have HSTR := Lib.hid hstr
          clear hstr
          go_wp2_with (at_builtin; refine wpList_append_arg _ rfl _ _ _ rfl 5 i0 _ 1 1 Try.underlying145 hi0 hz0 hz1 hz2 rfl (by omega) w.heap.size 0 s.size C (u8s (List.replicate s.size z)) rfl (by simp [u8s_length]) C1.out ⟨wr.heap.size, 0, none⟩ 1 1 [.int .u8 z.toNat] rfl rfl (World.news_of_block (cs := #[.int .u8 z.toNat]) (t := 5) (fr := (0, 0)) (heap_alloc_new wr _)) (by simp [Value.oneCell']) C2.out (by unfold maxLen; omega) (by omega) (fun _ => ?_) (fun h => absurd h (by omega)); have hstr := HSTR.out C)
          go_ret2
          exact ⟨.inl ⟨_, rfl, by have h := HFIN.out; simpa using h⟩, (hbw.alloc hsz _).setCell (Nat.le_refl _) _⟩
        · go_wp2_with (at_builtin; refine wpList_append_arg _ rfl _ _ _ rfl 5 i0 _ 1 1 Try.underlying145 hi0 hz0 hz1 hz2 rfl (by omega) w.heap.size 0 s.size C (u8s (List.replicate s.size z)) rfl (by simp [u8s_length]) C1.out ⟨wr.heap.size, 0, none⟩ 1 1 [.int .u8 z.toNat] rfl rfl (World.news_of_block (cs := #[.int .u8 z.toNat]) (t := 5) (fr := (0, 0)) (heap_alloc_new wr _)) (by simp [Value.oneCell']) (fun h => absurd h (by omega)) (by unfold maxLen; omega) (by omega) (fun h => absurd h (by omega)) (fun _ v' w1 hown hgr => ?_); obtain ⟨g1, cap1, rfl, hg1, hg2⟩ := hown.form (by omega); have hstr := string_grown hown)
          go_ret2
          exact ⟨.inl ⟨_, rfl, by have h := HFIN.out; simpa using h⟩, (hbw.alloc hsz _).grown hgr (by simp; omega) (fun k hk => by cases hk)⟩
end Go.Proofs.Ytkmcnekjimobhaa
