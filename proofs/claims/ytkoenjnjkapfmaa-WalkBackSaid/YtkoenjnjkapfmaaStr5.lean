/- What walk.Unrank answers. -/
import Derived.Test.YtkoenjnjkapfmaaStr4
namespace Go.Proofs.Ytkoenjnjkapfmaa
open Go.RowKit

/-- the cells of a row of zero bytes that make lays -/
def zbytes (n : Nat) : Array Value := madeCells (Value.int .u8 0).cells (n * 1)
theorem zbytes_size (n : Nat) : (zbytes n).size = n := by simp [zbytes, size_madeCells]
theorem zbytes_toList (n : Nat) : (zbytes n).toList = u8s (List.replicate n 0) := by
  apply List.ext_getElem
  · simp [zbytes, size_madeCells, u8s]
  · intro i h1 h2
    simp [zbytes, madeCells, Value.cells, u8s, Nat.mod_one]
theorem shN_lt {m k : Nat} (hm : 0 < m) : shN m k < shN m (k + 1) := by
  have := Nat.pow_pos (n := k) hm
  rw [shN]; omega

theorem unrank_no (a : ByteArray) (n : Int) (w : World) (ha : a.size ≤ 140737488351232) (hn : I64 n) (ho : ¬ (AlphaOk a.data.toList ∧ 0 ≤ n ∧ n < shN a.size 7)) :
    Calls Try.prog 38 #[.string a, .int .i64 n] w fun e w' => (∃ x, e = .returned (.tuple #[.string ⟨#[]⟩, .int .i64 x]) ∧ x ≠ 0) ∧ Below w.heap.size w w' := by
  obtain ⟨n1, n2⟩ := hn
  have HLA := Lib.hid (size_list a)
  by_cases hao : AlphaOk a.data.toList
  · have h8 : a.size ≤ 8 := by have := hao.2.1; have := HLA.out; omega
    have HAO := Lib.hid hao
    have hr : n < 0 ∨ (shN a.size 7 : Int) ≤ n := by
      rcases Int.lt_or_le n 0 with h | h
      · exact .inl h
      · right
        rcases Int.lt_or_le n (shN a.size 7) with h' | h'
        · exact absurd ⟨hao, h, h'⟩ ho
        · exact h'
    clear hao ho
    by_cases hn0 : n < 0
    · go_enter Try.func38, Try.ntmps38
      go_wp2_with fail
      refine (alpha_any a _ ha).mono ?_
      rintro e w' ⟨⟨x, rfl, hx⟩, d, rfl⟩
      obtain rfl := hx.2 HAO.out
      clear hx
      go_wp2
      go_ret2
      exact ⟨⟨1, rfl, by omega⟩, below_drewN (Below.refl _ _) d⟩
    · go_enter Try.func38, Try.ntmps38
      go_wp2_with fail
      refine (alpha_any a _ ha).mono ?_
      rintro e w' ⟨⟨x, rfl, hx⟩, d, rfl⟩
      obtain rfl := hx.2 HAO.out
      clear hx
      have hge : (shN a.size 7 : Int) ≤ n := by omega
      clear hr
      go_wp2_with fail
      refine (shorter_any a 7 (by omega) h8 _).mono ?_
      rintro e w' ⟨rfl, rfl⟩
      go_wp2
      go_ret2
      exact ⟨⟨1, rfl, by omega⟩, below_drewN (Below.refl _ _) d⟩
  · have HAO := Lib.hid hao
    clear hao ho
    go_enter Try.func38, Try.ntmps38
    go_wp2_with fail
    refine (alpha_any a _ ha).mono ?_
    rintro e w' ⟨⟨x, rfl, hx⟩, d, rfl⟩
    have h0 : x ≠ 0 := fun h => HAO.out (hx.1 h)
    have H0 := Lib.hid h0
    have hne : (x != 0) = true := by simpa using h0
    clear hx h0
    go_wp2
    go_ret2
    exact ⟨⟨x, rfl, H0.out⟩, below_drewN (Below.refl _ _) d⟩

theorem step_val {m N P v : Nat} : N / m * (P * m) + (N % m * P + v) = N * P + v := by
  have h := Nat.div_add_mod N m
  have e : N / m * (P * m) = m * (N / m) * P := by rw [Nat.mul_comm P m, ← Nat.mul_assoc, Nat.mul_comm (N / m) m]
  rw [e, ← Nat.add_assoc, ← Nat.add_mul, h]

set_option maxHeartbeats 1000000 in
theorem unrank_yes (a : ByteArray) (n : Nat) (w : World) (ha : a.size ≤ 140737488351232) (hao : AlphaOk a.data.toList) (hn : n < shN a.size 7) :
    Calls Try.prog 38 #[.string a, .int .i64 n] w fun e w' => (∃ u : ByteArray, e = .returned (.tuple #[.string u, .int .i64 0]) ∧ OverOk a.data.toList u.data.toList ∧ rank a.data.toList u.data.toList = n) ∧ Below w.heap.size w w' := by
  have hla := size_list a
  have h8 : a.size ≤ 8 := by have := hao.2.1; omega
  have h1 : 0 < a.size := by
    have := hao.1
    rcases Nat.eq_zero_or_pos a.size with h | h
    · exact absurd (List.eq_nil_of_length_eq_zero (hla.trans h)) this
    · exact h
  have hnb : n ≤ 20000000 := by have := shN_le h8 7 (by omega); omega
  have HLA := Lib.hid hla
  have HAO := Lib.hid hao
  have HN := Lib.hid hn
  clear hla hao hn
  obtain ⟨i0, hi0, hz0, hz1, hz2⟩ := info_parts u8_info
  have hmk := fun (c : Nat) (hc : c ≤ 6) W => made_run Try.underlying86 hi0 hz0 .i64 .i64 (Nat.le_refl c) (by rw [hz2]; omega) (by omega) W
  rw [hz1] at hmk
  have HMK := Lib.hid hmk
  clear hmk
  go_enter Try.func38, Try.ntmps38
  go_wp2_with fail
  refine (alpha_any a _ ha).mono ?_
  rintro e w' ⟨⟨x, rfl, hx⟩, d, rfl⟩
  obtain rfl := hx.2 HAO.out
  clear hx
  go_wp2_with fail
  refine (shorter_any a 7 (by omega) h8 _).mono ?_
  rintro e w' ⟨rfl, rfl⟩
  have h7 : decide (shN a.size 7 ≤ n) = false := by have := HN.out; simp; omega
  go_wp2_with fail
  clear h7
  go_loop [7] (fun i => ∃ k : Nat, k ≤ 6 ∧ i = .int .i64 k ∧ shN a.size k ≤ n) (fun i => 7 - (intOf i).toNat)
  case atStart => exact ⟨0, by omega, rfl, by simp [shN]⟩
  case round =>
    obtain ⟨k, hk, rfl, hs⟩ := hrel
    go_wp2_with fail
    refine (shorter_any a (k + 1) (by omega) h8 _).mono ?_
    rintro e w' ⟨rfl, rfl⟩
    by_cases hle : shN a.size (k + 1) ≤ n
    · have hk6 : k < 6 := by
        rcases Nat.lt_or_ge k 6 with h | h
        · exact h
        · obtain rfl : k = 6 := by omega
          have := HN.out
          have h' : shN a.size 7 ≤ n := hle
          omega
      have HLE := Lib.hid hle
      generalize shN a.size (k + 1) = S at hle ⊢
      go_wp2
      go_round
      case rel => exact ⟨k + 1, by omega, by go_num, HLE.out⟩
      case measure => simp [intOf]; omega
    · have HLE := Lib.hid hle
      generalize shN a.size (k + 1) = S at hle ⊢
      go_wp2_with fail
      refine (shorter_any a k (by omega) h8 _).mono ?_
      rintro e w' ⟨rfl, rfl⟩
      have hmk := HMK.out k hk
      rw [show madeCells (Value.int .u8 0).cells (k * 1) = zbytes k from rfl] at hmk
      have HS := Lib.hid hs
      generalize hT : shN a.size k = T at hs ⊢
      have HT := Lib.hid hT
      clear hT hle
      go_wp2_with fail
      have hTb : n - T < a.size ^ k := by
        have := HLE.out
        rw [shN, HT.out] at this
        omega
      have hb0 : Blk (w.alloc (.cells (zbytes k) 5)) w.heap.size 5 (zbytes k) := blk_at rfl
      have hw0 : Below w.heap.size w (w.alloc (.cells (zbytes k) 5)) := (by repeat (first | exact Below.refl _ _ | assumption | refine Below.drew ?_ | refine below_drewN ?_ _ | refine Below.alloc ?_ (by first | omega | (simp; omega) | simp) _ | refine Below.setCell ?_ (by first | omega | (simp; omega) | simp) _))
      have hpw : ∀ r, r ≤ k → a.size ^ r ≤ 2097152 := fun r hr => pow_le_8 h8 (by omega)
      have HPW := Lib.hid hpw
      clear hpw hmk
      go_loopw [1, 9] (fun v i wr => ∃ (r N : Nat) (S : List UInt8), r ≤ k ∧ i = .int .i64 ((r : Int) - 1) ∧ v = .int .i64 N ∧ r + S.length = k ∧ OverA a.data.toList S ∧ N < a.size ^ r ∧ N * a.size ^ S.length + val a.data.toList S = n - T ∧
        (∃ cs, Blk wr w.heap.size 5 cs ∧ cs.toList = u8s (List.replicate r 0 ++ S)) ∧ Below w.heap.size w wr) (fun _ i _ => (intOf i + 1).toNat)
      case atStart =>
        refine ⟨k, n - T, [], Nat.le_refl _, rfl, ?_, rfl, (fun c hc => by cases hc), hTb, by simp [val], ⟨zbytes k, hb0, by rw [zbytes_toList, List.append_nil]⟩, (by repeat (first | exact Below.refl _ _ | assumption | refine Below.drew ?_ | refine below_drewN ?_ _ | refine Below.alloc ?_ (by first | omega | (simp; omega) | simp) _ | refine Below.setCell ?_ (by first | omega | (simp; omega) | simp) _))⟩
        exact congrArg (Value.int .i64) (by omega)
      case round =>
        obtain ⟨r, N, S, hr, rfl, rfl, hrS, hSo, hNb, hval, ⟨cs, hb, hcs⟩, hbw⟩ := hrel
        have HRS := Lib.hid hrS
        have HSO := Lib.hid hSo
        have HVAL := Lib.hid hval
        have HCS := Lib.hid hcs
        have HNB := Lib.hid hNb
        have hN : N ≤ 2097152 := by have := HPW.out r hr; omega
        clear hSo hval hcs hNb
        cases r with
        | succ j =>
          obtain ⟨q, m, hq, hm, hqm, hml⟩ : ∃ q m : Nat, (N : Int) / (a.size : Int) = q ∧ (N : Int) % (a.size : Int) = m ∧ (q = N / a.size ∧ m = N % a.size) ∧ m < a.size :=
            ⟨N / a.size, N % a.size, by simp, by simp, ⟨rfl, rfl⟩, Nat.mod_lt _ h1⟩
          have HQM := Lib.hid hqm
          have hgb := get_byte hml
          have HGB := Lib.hid hgb
          have hsz : cs.size = k := by rw [← Array.length_toList, HCS.out, u8s_length, List.length_append, List.length_replicate, HRS.out]
          have hcell := hb.cell j
          have hfz := hb.frozen j
          have hjs : j < cs.size := by omega
          rw [Array.getElem?_eq_getElem hjs] at hcell
          generalize cs[j]'hjs = u0 at hcell
          have hji : ((j + 1 : Nat) : Int) - 1 = (j : Int) := by omega
          have hz0 : ((a.size : Int) == 0) = false := by rw [beq_eq_false_iff_ne]; omega
          have hqb : q ≤ 2097152 := by rw [hqm.1]; exact Nat.le_trans (Nat.div_le_self _ _) hN
          have hrel' : OverA a.data.toList (a[m] :: S) ∧ q < a.size ^ j ∧ q * a.size ^ (a[m] :: S).length + val a.data.toList (a[m] :: S) = n - T ∧ (cs.setIfInBounds j (.int .u8 a[m].toNat)).toList = u8s (List.replicate j 0 ++ (a[m] :: S)) := by
            obtain ⟨hmb, hib⟩ := idx_of HAO.out HGB.out
            refine ⟨fun c hc => ?_, ?_, ?_, ?_⟩
            · rcases List.mem_cons.1 hc with rfl | hc
              · exact hmb
              · exact HSO.out c hc
            · rw [hqm.1]
              have := HNB.out
              rw [Nat.pow_succ, Nat.mul_comm] at this
              exact Nat.div_lt_of_lt_mul this
            · rw [val, hib, HLA.out, List.length_cons, Nat.pow_succ, hqm.1, hqm.2, step_val]
              exact HVAL.out
            · rw [Array.toList_setIfInBounds, HCS.out, u8s_set]
              congr 1
              rw [List.replicate_succ', set_mid _ _ _ (by simp)]
              simp
          have HREL := Lib.hid hrel'
          clear hqm hgb hrel'
          go_wp2
          go_roundw
          case rel => exact ⟨j, q, a[m] :: S, by omega, rfl, by go_num, by have := HRS.out; simp; omega, HREL.out.1, HREL.out.2.1, HREL.out.2.2.1, ⟨_, hb.set_ j _, HREL.out.2.2.2⟩, hbw.setCell (Nat.le_refl _) _⟩
          case measure => simp [intOf]
        | zero =>
          have hlS : S.length = k := by have := HRS.out; omega
          have hct : cs.toList.take k = u8s S := by rw [HCS.out, List.take_of_length_le (by rw [u8s_length]; simp; omega)]; simp
          have hstr := fun c => string_of (P := Try.prog) (c := c) Try.underlying86 Try.underlying5 Try.underlying9 (BlkZ.of hb) hlS hct
          have hfin : OverOk a.data.toList S ∧ rank a.data.toList S = n := by
            refine ⟨⟨HAO.out, by omega, HSO.out⟩, ?_⟩
            have h2 := HVAL.out
            have h3 := HNB.out
            rw [Nat.pow_zero] at h3
            have h4 : N = 0 := by omega
            rw [h4, Nat.zero_mul, Nat.zero_add] at h2
            unfold rank
            rw [hlS, HLA.out, HT.out, h2]
            have := HS.out
            rw [HT.out] at this
            omega
          have HFIN := Lib.hid hfin
          have hstr' := hstr k
          clear hct hstr hfin
          go_wp2
          go_ret2
          exact ⟨⟨_, rfl, by have h := HFIN.out; simpa using h⟩, hbw⟩
end Go.Proofs.Ytkoenjnjkapfmaa
