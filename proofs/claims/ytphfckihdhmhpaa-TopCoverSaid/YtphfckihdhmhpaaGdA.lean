/- Rows of marks in memory; what greedy.gain and greedy.Check answer. -/
import Derived.Test.YtphfckihdhmhpaaGdP
import Derived.Test.YtphfckihdhmhpaaSetG
import Derived.Test.YtphfckihdhmhpaaCov2
namespace Go.Proofs.Ytphfckihdhmhpaa
open Go.RowKit

/-- rows of ints that can be read below block B -/
structure RowsIs (w : World) (B : Nat) (rows : List (List Int)) (A : Option Addr) (cp : Nat) : Prop where
  le : rows.length ≤ cp
  cap : cp ≤ maxLen
  row : ∀ (i : Nat) (r : List Int), rows[i]? = some r → ∃ (ad : Addr) (A' : Option Addr) (c' : Nat), A = some ad ∧ ad.block < B ∧ w.cell? (ad.add i) = some (.slice A' r.length c') ∧ r.length ≤ c' ∧ c' ≤ maxLen ∧ Reads w B 1 A' r.length (ints r)
theorem RowsIs.on {w w' : World} {B : Nat} {rows : List (List Int)} {A : Option Addr} {cp : Nat} (h : RowsIs w B rows A cp) (hb : Below B w w') : RowsIs w' B rows A cp :=
  ⟨h.le, h.cap, fun i r hr => by
    obtain ⟨ad, A', c', e, h1, h2, h3, h4, h5⟩ := h.row i r hr
    exact ⟨ad, A', c', e, h1, (hb.cell (by rw [add_block]; exact h1)).trans h2, h3, h4, h5.below hb⟩⟩
theorem RowsIs.more {w : World} {B B' : Nat} {rows : List (List Int)} {A : Option Addr} {cp : Nat} (h : RowsIs w B rows A cp) (hB : B ≤ B') : RowsIs w B' rows A cp :=
  ⟨h.le, h.cap, fun i r hr => by
    obtain ⟨ad, A', c', e, h1, h2, h3, h4, h5⟩ := h.row i r hr
    exact ⟨ad, A', c', e, Nat.lt_of_lt_of_le h1 hB, h2, h3, h4, h5.more hB⟩⟩
/-- marks: 0 to 3 -/
def Marks (r : List Int) : Prop := ∀ z ∈ r, 0 ≤ z ∧ z ≤ 3
/-- does a row of marks say x? -/
def says (r : List Int) (x : Nat) : Bool := match r[x / 2]? with
  | some m => if x % 2 = 0 then m % 2 == 1 else m / 2 == 1
  | none => false
/-- the bits of y that x has not -/
def anI (y x : Int) : Nat := y.toNat &&& (3 - x.toNat)
def pc2 (x y : Int) : Nat := pcN 64 (anI y x)
def gainI : List Int → List Int → Nat
  | x :: h, y :: r => pc2 x y + gainI h r
  | _, _ => 0
theorem says_succ (m : Int) (r : List Int) (x : Nat) : says (m :: r) (x + 1 + 1) = says r x := by
  unfold says
  rw [show (x + 1 + 1) / 2 = x / 2 + 1 by omega, List.getElem?_cons_succ, show (x + 1 + 1) % 2 = x % 2 by omega]
theorem pc2_is (x y : Int) (hx : 0 ≤ x ∧ x ≤ 3) (hy : 0 ≤ y ∧ y ≤ 3) : pc2 x y = (if (y % 2 == 1 && !(x % 2 == 1)) = true then 1 else 0) + (if (y / 2 == 1 && !(x / 2 == 1)) = true then 1 else 0) := by
  obtain ⟨n, rfl⟩ := Int.eq_ofNat_of_zero_le hx.1
  obtain ⟨m, rfl⟩ := Int.eq_ofNat_of_zero_le hy.1
  have hn : n < 4 := by omega
  have hm : m < 4 := by omega
  clear hx hy
  have h : ∀ n : Fin 4, ∀ m : Fin 4, pc2 ((n : Nat) : Int) ((m : Nat) : Int) = (if (((m : Nat) : Int) % 2 == 1 && !(((n : Nat) : Int) % 2 == 1)) = true then 1 else 0) + (if (((m : Nat) : Int) / 2 == 1 && !(((n : Nat) : Int) / 2 == 1)) = true then 1 else 0) := by decide +kernel
  exact h ⟨n, hn⟩ ⟨m, hm⟩
theorem pc2_le (x y : Int) : pc2 x y ≤ 64 := pcN_le 64 _
theorem and_notG (x y : Int) (hx : 0 ≤ x ∧ x ≤ 3) (hy : 0 ≤ y ∧ y ≤ 3) : bits .andNot .i64 y x = (anI y x : Nat) ∧ anI y x < 4 := by
  obtain ⟨n, rfl⟩ := Int.eq_ofNat_of_zero_le hx.1
  obtain ⟨m, rfl⟩ := Int.eq_ofNat_of_zero_le hy.1
  have hn : n < 4 := by omega
  have hm : m < 4 := by omega
  clear hx hy
  have h : ∀ n : Fin 4, ∀ m : Fin 4, bits .andNot .i64 ((m : Nat) : Int) ((n : Nat) : Int) = (anI ((m : Nat) : Int) ((n : Nat) : Int) : Nat) ∧ anI ((m : Nat) : Int) ((n : Nat) : Int) < 4 := by decide +kernel
  exact h ⟨n, hn⟩ ⟨m, hm⟩
/-- what is gained, bit by bit -/
theorem gain_is : ∀ {h r : List Int}, h.length = r.length → Marks h → Marks r → gainI h r = gainB (2 * r.length) (says h) (says r)
  | [], [], _, _, _ => rfl
  | [], y :: r, hl, _, _ => by simp at hl
  | x :: h, [], hl, _, _ => by simp at hl
  | x :: h, y :: r, hl, hh, hr => by
    have ih := gain_is (h := h) (r := r) (by simpa using hl) (fun z hz => hh z (by simp [hz])) (fun z hz => hr z (by simp [hz]))
    rw [gainI, ih, pc2_is x y (hh x (by simp)) (hr y (by simp))]
    unfold gainB cntN
    rw [List.length_cons, show 2 * (r.length + 1) = (2 * r.length + 1) + 1 by omega, List.range_succ_eq_map, List.countP_cons, List.range_succ_eq_map, List.map_cons, List.countP_cons, List.map_map, List.countP_map]
    have e0 : newB (says (x :: h)) (says (y :: r)) 0 = (y % 2 == 1 && !(x % 2 == 1)) := rfl
    have e1 : newB (says (x :: h)) (says (y :: r)) (Nat.succ 0) = (y / 2 == 1 && !(x / 2 == 1)) := rfl
    have e2 : (newB (says (x :: h)) (says (y :: r)) ∘ (Nat.succ ∘ Nat.succ)) = newB (says h) (says r) := by
      funext z
      show newB (says (x :: h)) (says (y :: r)) (z + 1 + 1) = _
      unfold newB
      rw [says_succ, says_succ]
    rw [e0, e1, e2]
    omega
theorem gainI_snoc {h r : List Int} {k : Nat} {x y : Int} (hx : h[k]? = some x) (hy : r[k]? = some y) : gainI (h.take (k + 1)) (r.take (k + 1)) = gainI (h.take k) (r.take k) + pc2 x y := by
  induction h generalizing k r with
  | nil => simp at hx
  | cons a h ih =>
    cases r with
    | nil => simp at hy
    | cons b r =>
      cases k with
      | zero =>
        simp only [List.getElem?_cons_zero, Option.some.injEq] at hx hy
        subst hx hy
        simp [gainI]
      | succ k =>
        have := ih (k := k) (r := r) (by simpa using hx) (by simpa using hy)
        rw [List.take_succ_cons, List.take_succ_cons, gainI, this, List.take_succ_cons, List.take_succ_cons, gainI]
        omega
theorem gainI_le : ∀ (h r : List Int), gainI h r ≤ 64 * r.length
  | [], _ => by simp [gainI]
  | _ :: _, [] => by simp [gainI]
  | x :: h, y :: r => by
    have := gainI_le h r
    have := pc2_le x y
    rw [gainI, List.length_cons]
    omega

set_option maxRecDepth 100000 in
theorem ones1_any (x : Nat) (hx : x < 18446744073709551616) (w : World) : Calls Try.prog 91 #[.int .u64 x] w fun e w' => e = .returned (.int .i64 (pcN 64 x)) ∧ w' = w := by
  go_enter Try.func91, Try.ntmps91
  go_wp2_with fail
  refine (ones_any x hx _).mono ?_
  rintro e w' ⟨rfl, rfl⟩
  go_wp2
  go_ret
  exact ⟨rfl, rfl⟩
set_option maxRecDepth 100000 in
theorem gain_any (A A' : Option Addr) (n c c' : Nat) (h r : List Int) (B B' : Nat) (w : World) (hh : Reads w B 1 A n (ints h)) (hr : Reads w B' 1 A' n (ints r)) (hn : n ≤ 120) (mh : Marks h) (mr : Marks r) :
    Calls Try.prog 67 #[.slice A n c, .slice A' n c'] w fun e w' => e = .returned (.int .i64 (gainI h r)) ∧ w' = w := by
  have HL := Lib.hid hh.ints_len
  have HL' := Lib.hid hr.ints_len
  have HMH := Lib.hid mh
  have HMR := Lib.hid mr
  have HQ : Hid (∀ k, k ≤ n → gainI (h.take k) (r.take k) ≤ 64 * k) := fun k hk => by
    have := gainI_le (h.take k) (r.take k)
    rw [List.length_take] at this
    have : min k r.length ≤ k := Nat.min_le_left _ _
    omega
  clear mh mr
  go_enter Try.func67, Try.ntmps67
  go_wp2
  go_loopw [5, 6, 7, 10] (fun m _ _ i wr => ∃ k q : Nat, k ≤ n ∧ i = .int .i64 k ∧ m = .int .i64 q ∧ q ≤ 64 * k ∧ Hid (gainI (h.take k) (r.take k) = q) ∧ wr = w) (fun _ _ _ i _ => n - (intOf i).toNat)
  case atStart => exact ⟨0, 0, by omega, rfl, rfl, by omega, by show _ = _; rw [List.take_zero, List.take_zero]; rfl, rfl⟩
  case round =>
    obtain ⟨k, q, hk, rfl, rfl, hq, HG, rfl⟩ := hrel
    by_cases hkn : k < n
    · obtain ⟨ad, x, rfl, hab, hx, hcx⟩ := hh.int_at hkn
      obtain ⟨bd, y, rfl, hbb, hy, hcy⟩ := hr.int_at hkn
      have hxb := HMH.out x (List.mem_of_getElem? hx)
      have hyb := HMR.out y (List.mem_of_getElem? hy)
      have HS := Lib.hid (gainI_snoc hx hy)
      obtain ⟨han, h4⟩ := and_notG x y hxb hyb
      have hp := pc2_le x y
      have hpe : pcN 64 (anI y x) = pc2 x y := rfl
      generalize anI y x = m at han h4 hpe
      generalize pc2 x y = p at hp hpe HS
      have hwm : IntKind.u64.wrap (m : Int) = (m : Int) := by rw [IntKind.wrap_u64]; omega
      have HPE := Lib.hid hpe
      have hk0 : (0 : Int) ≤ (k : Int) := by omega
      have hk1 : (k : Int) < (n : Int) := by omega
      clear hx hy hpe
      go_wp2_with fail
      refine (ones1_any m (by omega) _).mono ?_
      rintro e w' ⟨rfl, rfl⟩
      rw [HPE.out]
      go_wp2
      go_roundw
      case rel => exact ⟨k + 1, q + p, by omega, by go_num, by go_num, by omega, by show _ = _; rw [HS.out, HG.out], trivial⟩
      case measure => simp [intOf]; omega
    · obtain rfl : k = n := by omega
      have HE : Hid (gainI h r = q) := by
        show _ = _
        rw [← HG.out, List.take_of_length_le (by rw [HL.out]; omega), List.take_of_length_le (by rw [HL'.out]; omega)]
      go_wp2
      go_ret
      exact ⟨ret_int (by rw [HE.out]), rfl⟩
theorem drop_ofL {α : Type} {l : List α} {j : Nat} {x : α} (h : l[j]? = some x) : l.drop j = x :: l.drop (j + 1) := by
  have hj := getElem?_lt h
  rw [List.drop_eq_getElem_cons hj]
  rw [List.getElem?_eq_getElem hj] at h
  injection h with h
  rw [h]
/-- what greedy.Check says -/
def chkF (L : Nat) : List (List Int) → Int
  | [] => 0
  | r :: rs => if checkL r ≠ 0 then checkL r else if r.length ≠ L then 1 else chkF L rs
def rowL (rows : List (List Int)) : Nat := match rows with
  | [] => 0
  | r :: _ => r.length
theorem rowL_is {rows : List (List Int)} {x : List Int} (h : rows[0]? = some x) : rowL rows = x.length := by
  cases rows with
  | nil => simp at h
  | cons a b =>
    simp only [List.getElem?_cons_zero, Option.some.injEq] at h
    rw [← h]
    rfl
def chkR (rows : List (List Int)) : Int := if 40 < rows.length then 2 else chkF (rowL rows) rows
theorem chkF_all {L : Nat} : ∀ {rows : List (List Int)}, chkF L rows = 0 → ∀ r ∈ rows, r.length = L ∧ L ≤ 120 ∧ Marks r
  | [], _, r, hr => by cases hr
  | x :: rs, h, r, hr => by
    rw [chkF] at h
    split at h
    · rename_i h1; exact absurd h h1
    rename_i h1
    split at h
    · omega
    rename_i h2
    rcases List.mem_cons.1 hr with rfl | hr
    · have := check_01 (by simpa using h1)
      exact ⟨by omega, by omega, this.2⟩
    · exact chkF_all h r hr
theorem chkR_all {rows : List (List Int)} (h : chkR rows = 0) : rows.length ≤ 40 ∧ rowL rows ≤ 120 ∧ ∀ r ∈ rows, r.length = rowL rows ∧ Marks r := by
  unfold chkR at h
  split at h
  · omega
  · refine ⟨by omega, ?_, fun r hr => ⟨(chkF_all h r hr).1, (chkF_all h r hr).2.2⟩⟩
    cases rows with
    | nil => exact Nat.zero_le _
    | cons r rs => exact (chkF_all h r (by simp)).2.1
set_option maxRecDepth 100000 in
theorem gcheckR_any (rows : List (List Int)) (A : Option Addr) (c : Nat) (B : Nat) (w : World) (hr : RowsIs w B rows A c) :
    Calls Try.prog 66 #[.slice A rows.length c] w fun e w' => e = .returned (.int .i64 (chkR rows)) ∧ w' = w := by
  have hle := hr.le
  have hcap := hr.cap
  unfold maxLen at hcap
  by_cases h40 : 40 < rows.length
  · go_enter Try.func66, Try.ntmps66
    go_wp2
    go_ret
    exact ⟨ret_int (if_pos h40).symm, rfl⟩
  have HE : Hid (chkR rows = chkF (rowL rows) rows) := if_neg h40
  go_enter Try.func66, Try.ntmps66
  go_wp2
  go_loopw [4, 5, 11] (fun _ _ i wr => ∃ k : Nat, k ≤ rows.length ∧ i = .int .i64 k ∧ Hid (chkF (rowL rows) (rows.drop k) = chkR rows) ∧ wr = w) (fun _ _ i _ => rows.length - (intOf i).toNat)
  case atStart => exact ⟨0, by omega, rfl, HE.out.symm, rfl⟩
  case round =>
    obtain ⟨k, hk, rfl, HR, rfl⟩ := hrel
    by_cases hkn : k < rows.length
    · have hx := List.getElem?_eq_getElem hkn
      generalize rows[k] = x at hx
      obtain ⟨ad, A1, c1, rfl, hab, hc1, hl1, hm1, hr1⟩ := hr.row k x hx
      have h0 := List.getElem?_eq_getElem (l := rows) (i := 0) (by omega)
      have hL := rowL_is h0
      generalize rows[0]'(by omega) = x0 at h0 hL
      obtain ⟨ad0, A0, c0, e0, hab0, hc0, hl0, hm0, hr0⟩ := hr.row 0 x0 h0
      injection e0 with e0
      subst e0
      have hc0 : wr.cell? ad = some (.slice A0 x0.length c0) := hc0
      have HD := Lib.hid (drop_ofL hx)
      have HR2 : Hid (chkR rows = if checkL x ≠ 0 then checkL x else if x.length ≠ rowL rows then 1 else chkF (rowL rows) (rows.drop (k + 1))) := by
        show _ = _
        rw [← HR.out, HD.out, chkF]
      rw [hL] at HR2
      have hk0 : (0 : Int) ≤ (k : Int) := by omega
      have hk1 : (k : Int) < (rows.length : Int) := by omega
      have hk2 : (0 : Int) < (rows.length : Int) := by omega
      have HL := Lib.hid hL
      clear hx h0 HR hL HE
      by_cases hce : checkL x = 0
      · have HC := Lib.hid hce
        clear hce
        by_cases hle2 : x.length = x0.length
        · have HR3 : Hid (chkF (rowL rows) (rows.drop (k + 1)) = chkR rows) := by
            show _ = _
            rw [HR2.out, if_neg (by rw [HC.out]; simp), if_neg (by omega), HL.out]
          have hlb : ((x.length : Int) != (x0.length : Int)) = false := by rw [bne_eq_false_iff_eq]; omega
          clear HR2 hle2
          go_wp2_with (go_at_call 68; (with_reducible refine (check_any A1 x.length c1 x B _ hr1).mono ?_); rw [HC.out]; rintro e w' ⟨rfl, rfl⟩)
          go_roundw
          case rel => exact ⟨k + 1, by omega, by go_num, HR3, trivial⟩
          case measure => simp [intOf]; omega
        · have HR3 : Hid (chkR rows = 1) := by
            show _ = _
            rw [HR2.out, if_neg (by rw [HC.out]; simp), if_pos hle2]
          have hne : ((x.length : Int) != (x0.length : Int)) = true := by rw [bne_iff_ne]; omega
          clear HR2
          go_wp2_with (go_at_call 68; (with_reducible refine (check_any A1 x.length c1 x B _ hr1).mono ?_); rw [HC.out]; rintro e w' ⟨rfl, rfl⟩)
          go_ret
          exact ⟨ret_int HR3.out.symm, rfl⟩
      · have HR3 : Hid (chkR rows = checkL x) := HR2.out.trans (if_pos hce)
        have hne : (checkL x != 0) = true := by rw [bne_iff_ne]; exact hce
        clear HR2 hce
        have hck := check_any A1 x.length c1 x B wr hr1
        generalize checkL x = y at hck HR3 hne
        go_wp2_with (go_at_call 68; (with_reducible refine hck.mono ?_); rintro e w' ⟨rfl, rfl⟩)
        go_ret
        exact ⟨ret_int HR3.out.symm, rfl⟩
    · obtain rfl : k = rows.length := by omega
      have HE2 : Hid (chkR rows = 0) := by
        show _ = _
        rw [← HR.out, List.drop_length, chkF]
      go_wp2
      go_ret
      exact ⟨ret_int HE2.out.symm, rfl⟩
end Go.Proofs.Ytphfckihdhmhpaa
