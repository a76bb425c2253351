/- What quote.Unlit answers of a text that begins with a literal. Plain laws: a literal that was written is read as it was. QuoteOrder, plain: decimal numerals and their lengths; a numeral is read as it was. Books, plain: cases as lines of a text; what is printed is read as it was. The contract of strconv.Itoa, laid by the kit's shelf at this seat (wip/shelf.py writes this text anew for another seat). The contract of strconv.Atoi, laid by the kit's shelf at this seat (wip/shelf.py writes this text anew for another seat). The contract of strings.Cut, laid by the kit's shelf at this seat (wip/shelf.py writes this text anew for another seat). Numerals as bytes; the table of powers in memory. What quote.Unlit answers where it can't be read. A region that draws its order: operations that are quiet in a class of worlds, then one that all of them feed (a call that turns the world), then others that are quiet behind it: one walk of the text's order serves. -/
import Derived.Test.YtndhbdbfjkmloaaGreatDoorJTopBook11
import Derived.Lib.AtoiAllCases
import Derived.Lib.ItoaNum
import Derived.Lib.ItoaLen
import Derived.Lib.SplitLaws
import Derived.Shelf.Small.Strs
import Derived.Shelf.Strconv.Atoi
import Derived.Shelf.Strconv.Itoa0
import Derived.Shelf.Strconv.Itoa1
import Derived.Shelf.LaysM
import Derived.Shelf.Strconv.Itoa2
import Derived.Shelf.Strconv.Itoa3
import Derived.Shelf.Strconv.AtoiErrFast
import Derived.Shelf.Strconv.ParseIntEmpty
import Derived.Shelf.Strconv.AtoiFail
import Derived.Shelf.Strconv.Clone
import Derived.Shelf.Strconv.SyntaxError
import Derived.Shelf.LaysC
import Derived.Shelf.Strconv.ToError
import Derived.Shelf.Strconv.Lower
import Derived.Shelf.Strconv.ParseUint10
import Derived.Shelf.Strconv.ParseUint10Empty
import Derived.Shelf.Strconv.ParseUint10Any
import Derived.Shelf.Strconv.ParseInt10
import Derived.Shelf.Strconv.AtoiLong
import Derived.Shelf.Strconv.AtoiInnerAll
import Derived.Shelf.Strconv.RangeError
import Derived.Shelf.Strconv.ToErrorRange
import Derived.Shelf.Strconv.AtoiAll
import Derived.Shelf.Strings.Search1
import Derived.Shelf.Strings.Search2
import Derived.Shelf.Strings.Search3
import Derived.Shelf.Strings.Cut
import Derived.Shelf.Strings.Count
import Derived.Shelf.Strings.Shaped
import Derived.Shelf.Strings.Prefix
import Derived.Shelf.Strings.Split
import Derived.Shelf.Strings.SplitShaped
import Derived.Shelf.Unicode.DecodeSlow
import Derived.Shelf.Unicode.DecodeAny
import Derived.Test.YtndhbdbfjkmloaaGreatDoorProg
import Derived.Test.YtndhbdbfjkmloaaGreatDoorJTopBook0
import Derived.Test.YtndhbdbfjkmloaaGreatDoorJTopBook4
namespace Go.Proofs.YtndhbdbfjkmloaaGreatDoor
open Go.RowKit

/-- a literal read behind its first sign q: its bytes, and how many signs it takes, the last one with it -/
def unl (q : Nat) (sg : List UInt8) : Nat → List UInt8 → Option (List UInt8 × Nat)
  | 0, _ => none
  | _ + 1, [] => none
  | f + 1, l => if bt l 0 = q then some ([], 1) else if (nextN sg l).2 = 0 then none else (unl q sg f (l.drop (nextN sg l).2)).map fun x => (UInt8.ofNat (nextN sg l).1 :: x.1, (nextN sg l).2 + x.2)

theorem unl_step (q : Nat) (sg : List UInt8) (f : Nat) {l : List UInt8} (hl : l ≠ []) : unl q sg (f + 1) l = if bt l 0 = q then some ([], 1) else if (nextN sg l).2 = 0 then none else (unl q sg f (l.drop (nextN sg l).2)).map fun x => (UInt8.ofNat (nextN sg l).1 :: x.1, (nextN sg l).2 + x.2) := by
  cases l with
  | nil => exact absurd rfl hl
  | cons => rfl
theorem unl_nil (q : Nat) (sg : List UInt8) : ∀ f, unl q sg f [] = none
  | 0 => rfl
  | _ + 1 => rfl
/-- the signs that stand behind a stroke in a literal -/
def sgU : ByteArray := ⟨#[39, 34, 92]⟩
theorem string_own {w : World} {base n c : Nat} {V : Option Addr} {l : List UInt8} (h : w.ownsRow base 5 1 (.slice V n c) n (u8s l)) :
    (convert 106 9 (.slice V n c)).run Tryz.prog w = .ok (.string ⟨l.toArray⟩) w := by
  have hl : l.length = n := by have := h.1; rw [u8s_length] at this; omega
  rcases h.2 with ⟨h1, rfl⟩ | ⟨g', cap, cur, hv, _, hh, _, _, _, ht⟩
  · simp only [Value.slice.injEq] at h1
    obtain ⟨rfl, _, rfl⟩ := h1
    have : l = [] := List.eq_nil_of_length_eq_zero hl
    subst this
    have hu := Tryz.underlying9
    have := run_convert_bytes_string (P := Tryz.prog) w 106 9 5 none 0 0 Tryz.underlying106 Tryz.underlying5 hu
    rw [this]
    rfl
  · simp only [Value.slice.injEq] at hv
    obtain ⟨rfl, _, _⟩ := hv
    rw [Nat.mul_one] at ht
    exact string_of Tryz.underlying106 Tryz.underlying5 Tryz.underlying9 (BlkZ.of hh) hl ht

theorem u8_info' : (Tryz.prog.info? 5).map (fun i => (i.zero, i.size, i.bytes)) = some (some (.int .u8 0), 1, 1) := by kernel_rfl
theorem bt_drop (l : List UInt8) (k : Nat) : bt (l.drop k) 0 = bt l k := by
  unfold bt; rw [List.getD_eq_getElem?_getD, List.getD_eq_getElem?_getD, List.getElem?_drop, Nat.add_zero]

set_option maxRecDepth 100000 in
set_option maxHeartbeats 4000000 in
theorem unlit_yes (s : ByteArray) (w : World) (hs : s.size ≤ 4611686018427387904) (h0 : 0 < s.size) (q : Nat) (hq : bt s.data.toList 0 = q) (hq2 : q = 39 ∨ q = 34) (o : List UInt8) (c : Nat)
    (ho : unl q sgU.data.toList s.size (s.data.toList.drop 1) = some (o, c)) (hob : o.length ≤ 140737488351232) :
    Calls Tryz.prog 33 #[.string s] w fun e w' => e = .returned (.tuple #[.string ⟨o.toArray⟩, .int .i64 ((1 + c : Nat) : Int), .int .i64 0]) ∧ Below w.heap.size w w' := by
  have HL := Lib.hid (size_list s)
  have hb0 := bt_of h0
  rw [hq] at hb0
  have HQ := Lib.hid hq
  have HO := Lib.hid ho
  clear hq ho
  have hne : (s.toList.isEmpty) = false := by
    rw [ByteArray.toList_eq]
    cases h : s.data.toList with
    | nil => have := HL.out; rw [h] at this; simp at this; omega
    | cons => rfl
  obtain ⟨i0, hi0, hz0, hz1, hz2⟩ := info_parts u8_info'
  have hqb : q < 256 := by omega
  have h39 : ((q : Int) != 39) = true ∧ ((q : Int) != 34) = false ∨ ((q : Int) != 39) = false := by
    rcases hq2 with rfl | rfl
    · right; decide
    · left; decide
  clear hq2
  rcases h39 with ⟨b1, b2⟩ | b1
  all_goals
    go_enter Tryz.func33, Tryz.ntmps33
    go_wp2_with fail
    go_loopw [5, 6, 7, 8] (fun v i _ _ wr => ∃ (k m f : Nat) (acc : List UInt8) (V : Option Addr) (cp : Nat), 1 ≤ k ∧ k ≤ s.size ∧ s.size - k < f ∧ i = .int .i64 k ∧ v = .slice V m cp ∧ wr.ownsRow w.heap.size 5 1 (.slice V m cp) m (u8s acc) ∧
      (unl q sgU.data.toList f (s.data.toList.drop k)).map (fun x => (acc ++ x.1, k + x.2)) = some (o, 1 + c) ∧ Below w.heap.size w wr) (fun _ i _ _ _ => s.size - (intOf i).toNat)
    case atStart => exact ⟨1, 0, s.size, [], none, 0, by omega, by omega, by omega, rfl, rfl, ⟨rfl, .inl ⟨rfl, rfl⟩⟩, by rw [HO.out]; simp, Below.refl _ _⟩
    case round =>
      obtain ⟨k, m, f, acc, V, cp, hk1, hk, hf, rfl, rfl, hown, hun, hbw⟩ := hrel
      have hmacc : acc.length = m := by have := hown.1; rw [u8s_length] at this; omega
      have hsz := hbw.size
      obtain ⟨f', rfl⟩ : ∃ f', f = f' + 1 := ⟨f - 1, by omega⟩
      by_cases hkn : k < s.size
      · have hne' : s.data.toList.drop k ≠ [] := by
          intro h
          have := congrArg List.length h
          rw [List.length_drop, HL.out, List.length_nil] at this
          omega
        rw [unl_step _ _ _ hne', bt_drop] at hun
        have hbk := bt_of hkn
        have hk0 : (0 : Int) ≤ (k : Int) := by omega
        have hk1 : (k : Int) < (s.size : Int) := by omega
        by_cases hbq : bt s.data.toList k = q
        · rw [if_pos hbq] at hun
          have hun' : acc = o ∧ k + 1 = 1 + c := by simpa using hun
          obtain ⟨rfl, hkc⟩ := hun'
          rw [hbq] at hbk
          have hstr := string_own hown
          have HKC := Lib.hid hkc
          clear hun hbq hkc
          go_wp2
          go_quiet (fail)
          have hstr' := string_own (w := wr.drewN nq) hown
          go_wp2
          go_ret3
          exact ⟨by rw [← HKC.out]; rfl, below_drewN hbw _⟩
        · rw [if_neg hbq] at hun
          generalize hnn : nextN sgU.data.toList (s.data.toList.drop k) = nx at hun
          obtain ⟨b, n⟩ := nx
          have hnb := nextN_bd sgU.data.toList _ hne'
          rw [hnn] at hnb
          simp only at hnb hun
          obtain ⟨hn1, hn2, hn3⟩ := hnb
          rw [List.length_drop, HL.out] at hn1
          by_cases hn0 : n = 0
          · rw [if_pos hn0] at hun; cases hun
          · rw [if_neg hn0, List.drop_drop] at hun
            generalize hu2 : unl q sgU.data.toList f' (s.data.toList.drop (k + n)) = R at hun
            cases R with
            | none => cases hun
            | some x =>
              obtain ⟨x1, x2⟩ := x
              have hun' : acc ++ UInt8.ofNat b :: x1 = o ∧ k + (n + x2) = 1 + c := by simpa using hun
              have hlen : m + 1 ≤ 140737488351232 := by
                have := congrArg List.length hun'.1
                simp at this
                omega
              have hrel : (unl q sgU.data.toList f' (s.data.toList.drop (k + n))).map (fun x => (acc ++ [UInt8.ofNat b] ++ x.1, k + n + x.2)) = some (o, 1 + c) := by
                rw [hu2]
                simp only [Option.map_some, List.append_assoc, List.singleton_append, hun'.1]
                rw [← hun'.2]
                congr 2
                omega
              have HREL := Lib.hid hrel
              have HNN := Lib.hid hnn
              have hbn : ((b : Int)) = ((UInt8.ofNat b).toNat : Int) := by simp; omega
              have HBN := Lib.hid hbn
              have hn00 : ((n : Int) == 0) = false := by rw [beq_eq_false_iff_ne]; omega
              have hbne : (((bt s.data.toList k : Nat) : Int) == (q : Int)) = false := by rw [beq_eq_false_iff_ne]; omega
              clear hun hun' hrel hnn hbn hu2 hne' hbq
              go_wp2
              go_quiet (fail)
              go_wp2_with fail
              refine (nextq_any (s.extract k s.size) ⟨#[39, 34, 92]⟩ _ ?_).mono ?_
              · have := size_list (s.extract k s.size); rw [Lib.extract_to_end, List.length_drop, HL.out] at this; omega
              rw [Lib.extract_to_end]
              unfold NextQ
              rw [show (⟨#[39, 34, 92]⟩ : ByteArray).data.toList = sgU.data.toList from rfl, HNN.out]
              rintro e w2 ⟨rfl, d, rfl⟩
              rw [HBN.out]
              generalize UInt8.ofNat b = B at *
              go_wp2_with (at_builtin; refine wpList_append_lies _ rfl _ _ _ rfl w.heap.size 5 i0 _ 1 1 Tryz.underlying106 hi0 hz0 hz1 hz2 rfl (by omega) (.slice V m cp) m _ rfl (hown.alloc _) ⟨wr.heap.size, 0, none⟩ 1 1 [.int .u8 B.toNat] rfl rfl (World.news_of_block (cs := #[.int .u8 B.toNat]) (t := 5) (fr := (0, 0)) (heap_alloc_new wr _)) (by simp [Value.oneCell']) (by omega) (by unfold maxLen; omega) (by omega) (by simp; omega) (wr.heap.size + 1) (by simp) ?_; intro gg cap w1 hown1 hgrow hat hlt)
              go_roundw
              case rel => exact ⟨k + n, m + 1, f', acc ++ [B], _, cap, by omega, by omega, by omega, by go_num, rfl, by rw [u8s_append]; exact hown1, HREL.out, below_app (below_drewN (hbw.alloc hsz _) _) (hown.alloc _) hgrow (by simp; omega) (Nat.le_refl _)⟩
              case measure => simp [intOf]; omega
      · obtain rfl : k = s.size := by omega
        rw [List.drop_of_length_le (by rw [HL.out]; omega), unl_nil] at hun
        cases hun
end Go.Proofs.YtndhbdbfjkmloaaGreatDoor
namespace Go.Proofs.YtndhbdbfjkmloaaGreatDoor
open Go.RowKit

theorem enc_next (n : Nat) (h : n < 256) : nextN sgU.data.toList (enc false n) = (n, (enc false n).length) ∧ bt (enc false n) 0 ≠ 39 ∧ (enc false n).length ≠ 0 := by
  have h' : ∀ n : Fin 256, nextN sgU.data.toList (enc false n.val) = (n.val, (enc false n.val).length) ∧ bt (enc false n.val) 0 ≠ 39 ∧ (enc false n.val).length ≠ 0 := by decide +kernel
  exact h' ⟨n, h⟩
theorem enc_seen (cls : Bool) (n : Nat) (h : n < 256) : ∀ b ∈ enc cls n, 32 ≤ b.toNat ∧ b.toNat ≤ 126 := by
  have h' : ∀ cls : Bool, ∀ n : Fin 256, ∀ b ∈ enc cls n.val, 32 ≤ b.toNat ∧ b.toNat ≤ 126 := by decide +kernel
  exact h' cls ⟨n, h⟩

theorem unl_enc (more : List UInt8) : ∀ (s : List UInt8) (f : Nat), (encAll false s).length < f → unl 39 sgU.data.toList f (encAll false s ++ 39 :: more) = some (s, (encAll false s).length + 1)
  | [], 0, h => by simp at h
  | [], f + 1, _ => by
    show unl 39 sgU.data.toList (f + 1) (39 :: more) = _
    rw [unl_step _ _ _ (by simp), if_pos (by rfl)]
    rfl
  | b :: s, 0, h => by simp at h
  | b :: s, f + 1, h => by
    obtain ⟨h1, h2, h3⟩ := enc_next b.toNat b.toNat_lt
    have hne : enc false b.toNat ≠ [] := fun h' => h3 (by rw [h']; rfl)
    have hl : 0 < (enc false b.toNat).length := by omega
    rw [encAll, List.append_assoc] at *
    rw [List.length_append] at h
    have hx := nextN_app (sg := sgU.data.toList) (r := encAll false s ++ 39 :: more) (by rw [h1]; exact h3) hne
    rw [unl_step _ _ _ (by simp [hne]), bt_app hl, if_neg h2, hx, h1]
    simp only
    rw [if_neg h3, List.drop_left, unl_enc more s f (by omega)]
    simp only [Option.map_some, List.length_append, Option.some.injEq, Prod.mk.injEq]
    refine ⟨?_, by omega⟩
    simp

theorem litL_seen (s : List UInt8) : ∀ b ∈ litL s, 32 ≤ b.toNat ∧ b.toNat ≤ 126 := by
  have h : ∀ s : List UInt8, ∀ b ∈ encAll false s, 32 ≤ b.toNat ∧ b.toNat ≤ 126 := by
    intro s
    induction s with
    | nil => intro b hb; cases hb
    | cons c s ih =>
      intro b hb
      rcases List.mem_append.1 hb with hb | hb
      · exact enc_seen false c.toNat c.toNat_lt b hb
      · exact ih b hb
  intro b hb
  unfold litL at hb
  rcases List.mem_cons.1 hb with rfl | hb
  · decide
  · rcases List.mem_append.1 hb with hb | hb
    · exact h s b hb
    · rw [List.mem_singleton.1 hb]; decide
end Go.Proofs.YtndhbdbfjkmloaaGreatDoor
namespace Go.Proofs.YtndhbdbfjkmloaaGreatDoor

theorem dd_small {u : Nat} (h : u < 10) : Lib.decDigits u = [UInt8.ofNat (48 + u)] := by rw [Lib.decDigits, dif_pos h]
theorem dd_big {u : Nat} (h : ¬ u < 10) : Lib.decDigits u = Lib.decDigits (u / 10) ++ [UInt8.ofNat (48 + u % 10)] := by rw [Lib.decDigits, dif_neg h]
theorem dd_len (u : Nat) : (Lib.decDigits u).length = Lib.nDigits u := by rw [Lib.decDigits_eq]; simp
theorem dig_nat {d : Nat} (h : d < 10) : (UInt8.ofNat (48 + d)).toNat = 48 + d := by
  rw [UInt8.toNat_ofNat']
  omega
theorem parse_app : ∀ (l r : List UInt8) (acc m : Nat), Lib.parseUint10 acc l = .ok m → Lib.parseUint10 acc (l ++ r) = Lib.parseUint10 m r
  | [], r, acc, m, h => by
    simp only [Lib.parseUint10] at h
    injection h with h
    rw [h]
    rfl
  | c :: l, r, acc, m, h => by
    rw [List.cons_append]
    simp only [Lib.parseUint10] at h ⊢
    split at h
    · rename_i hd
      rw [if_pos hd]
      split at h
      · cases h
      · rename_i h1
        rw [if_neg h1]
        split at h
        · cases h
        · rename_i h2
          rw [if_neg h2]
          exact parse_app l r _ m h
    · cases h
theorem parse_one {acc d : Nat} (hd : d < 10) (h : acc * 10 + d < 18446744073709551616) : Lib.parseUint10 acc [UInt8.ofNat (48 + d)] = .ok (acc * 10 + d) := by
  simp only [Lib.parseUint10]
  rw [dig_nat hd, if_pos (by omega), if_neg (by omega), if_neg (by omega)]
  congr 1
  omega
theorem parse_dd (u : Nat) : u < 18446744073709551616 → Lib.parseUint10 0 (Lib.decDigits u) = .ok u := by
  induction u using Nat.strongRecOn with
  | _ u ih =>
    intro hu
    by_cases h : u < 10
    · rw [dd_small h, parse_one h (by omega)]
      congr 1
      omega
    · rw [dd_big h, parse_app _ _ _ _ (ih (u / 10) (by omega) (by omega)), parse_one (by omega) (by omega)]
      congr 1
      omega
theorem dd_first (u : Nat) : ∃ c r, Lib.decDigits u = c :: r ∧ 48 ≤ c.toNat ∧ c.toNat ≤ 57 := by
  induction u using Nat.strongRecOn with
  | _ u ih =>
    by_cases h : u < 10
    · exact ⟨_, [], dd_small h, by rw [dig_nat h]; omega, by rw [dig_nat h]; omega⟩
    · obtain ⟨c, r, h1, h2, h3⟩ := ih (u / 10) (by omega)
      exact ⟨c, r ++ [UInt8.ofNat (48 + u % 10)], by rw [dd_big h, h1]; rfl, h2, h3⟩
theorem mag_dd {u : Nat} (hu : u < 18446744073709551616) : Lib.parseMag (Lib.decDigits u) = .ok u := by
  obtain ⟨c, r, h1, -⟩ := dd_first u
  unfold Lib.parseMag
  rw [if_neg (by rw [h1]; simp), parse_dd u hu]
/-- a numeral is read as it was -/
theorem atoi_itoa {n : Int} (h0 : -9223372036854775808 ≤ n) (h1 : n ≤ 9223372036854775807) : Lib.atoiAll (Lib.itoa n) = .ok n := by
  unfold Lib.itoa
  by_cases h : n < 0
  · rw [if_pos h, Lib.atoiAll_minus, mag_dd (by omega)]
    simp only [Lib.signed]
    rw [if_neg (by omega)]
    congr 1
    omega
  · obtain ⟨c, r, e1, e2, e3⟩ := dd_first n.toNat
    rw [if_neg h]
    rw [show Lib.atoiAll (Lib.decDigits n.toNat) = Lib.signless (Lib.parseMag (Lib.decDigits n.toNat)) by rw [e1]; exact Lib.atoiAll_plain c r (by omega) (by omega)]
    rw [mag_dd (by omega)]
    simp only [Lib.signless]
    rw [if_neg (by omega)]
    congr 1
    omega
theorem nd_le : ∀ (k u : Nat), 1 ≤ k → u < 10 ^ k → Lib.nDigits u ≤ k
  | 0, _, h, _ => by omega
  | k + 1, u, _, h => by
    by_cases h10 : u < 10
    · rw [Lib.nDigits_small h10]; omega
    · rw [Lib.nDigits_big h10]
      rcases Nat.eq_zero_or_pos k with rfl | hk
      · simp at h; omega
      · have := nd_le k (u / 10) hk (by rw [Nat.pow_succ] at h; omega)
        omega
theorem itoa_len_pos {n : Int} (h : 0 ≤ n) : (Lib.itoa n).length = Lib.nDigits n.toNat := by
  unfold Lib.itoa
  rw [if_neg (by omega), dd_len]
theorem itoa_nine {n : Int} (h : 0 ≤ n) (h9 : n < 1000000000) : (Lib.itoa n).length ≤ 9 := by
  rw [itoa_len_pos h]
  exact nd_le 9 _ (by omega) (by show _ < 1000000000; omega)
end Go.Proofs.YtndhbdbfjkmloaaGreatDoor
namespace Go.Proofs.YtndhbdbfjkmloaaGreatDoor
open Go.RowKit

/-- "accept", "reject", "prefix" -/
def wdA : List UInt8 := [97, 99, 99, 101, 112, 116]
def wdR : List UInt8 := [114, 101, 106, 101, 99, 116]
def wdP : List UInt8 := [112, 114, 101, 102, 105, 120]
/-- how a line begins -/
def headC (k n : Int) : List UInt8 := if k = 1 then wdA ++ [32] else if k = 2 then wdR ++ [32] else wdP ++ 32 :: (Lib.itoa n ++ [32])
/-- a case as a line, without its end -/
def lineC (c : Cs) : List UInt8 := headC c.1 c.2.1 ++ litL c.2.2.data.toList
def bookL (l : List Cs) : List UInt8 := l.flatMap fun c => lineC c ++ [10]
theorem bookL_snoc (l : List Cs) (c : Cs) : bookL (l ++ [c]) = bookL l ++ (lineC c ++ [10]) := by simp [bookL]
/-- a text cut at its first blank -/
def cutP : List UInt8 → List UInt8 × List UInt8
  | [] => ([], [])
  | b :: l => if b = 32 then ([], l) else (b :: (cutP l).1, (cutP l).2)
/-- a text as its lines -/
def linesP : List UInt8 → List (List UInt8)
  | [] => [[]]
  | b :: l => if b = 10 then [] :: linesP l else match linesP l with
    | [] => [[b]]
    | x :: r => (b :: x) :: r
theorem linesP_ne (l : List UInt8) : linesP l ≠ [] := by
  cases l with
  | nil => simp [linesP]
  | cons b l =>
    rw [linesP]
    split
    · simp
    · split <;> simp

theorem index_eqP (c : UInt8) (l : List UInt8) : Lib.index (c :: l) [c] = ((0 : Nat) : Int) := by rw [Lib.index]; simp [List.isPrefixOf]
theorem index_neP {b c : UInt8} (l : List UInt8) (h : b ≠ c) : Lib.index (b :: l) [c] = if Lib.index l [c] == -1 then -1 else Lib.index l [c] + 1 := by
  have hp : ([c] : List UInt8).isPrefixOf (b :: l) = false := by simp [List.isPrefixOf, Ne.symm h]
  rw [Lib.index, hp]
  simp
theorem cut_is : ∀ l : List UInt8, (Lib.cut l [32]).1 = (cutP l).1 ∧ (Lib.cut l [32]).2.1 = (cutP l).2
  | [] => by
    unfold Lib.cut
    rw [if_neg (by simp [Lib.index])]
    exact ⟨rfl, rfl⟩
  | b :: l => by
    obtain ⟨h1, h2⟩ := cut_is l
    by_cases hb : b = 32
    · subst hb
      unfold Lib.cut
      rw [index_eqP, if_pos (by omega), cutP, if_pos rfl]
      exact ⟨rfl, rfl⟩
    · rw [cutP, if_neg hb]
      unfold Lib.cut at h1 h2 ⊢
      rw [index_neP l hb]
      by_cases hm : Lib.index l [32] = -1
      · rw [if_neg (by rw [hm]; omega)] at h1 h2
        rw [if_pos (beq_iff_eq.2 hm), if_neg (by omega)]
        simp only at h1 h2 ⊢
        exact ⟨by rw [← h1], h2⟩
      · have hge := Lib.index_ge l [32]
        obtain ⟨j, hj⟩ : ∃ j : Nat, Lib.index l [32] = j := ⟨(Lib.index l [32]).toNat, by omega⟩
        rw [hj, if_pos (by omega)] at h1 h2
        have hx : (if (Lib.index l [32] == -1) = true then (-1 : Int) else Lib.index l [32] + 1) = ((j + 1 : Nat) : Int) := by rw [if_neg (by simpa using hm), hj]; omega
        rw [hx, if_pos (by omega)]
        simp only [Int.toNat_natCast, List.length_singleton] at h1 h2 ⊢
        exact ⟨by rw [List.take_succ_cons, h1], by rw [show j + 1 + 1 = (j + 1) + 1 from rfl, List.drop_succ_cons]; exact h2⟩
theorem splitK_is (c : UInt8) (hc : c = 10) : ∀ l : List UInt8, Lib.splitK [c] 0 (Lib.count l [c]) l = linesP l
  | [] => by rw [Lib.count_miss (by simp [Lib.index])]; rfl
  | b :: l => by
    have ih := splitK_is c hc l
    by_cases hb : b = c
    · subst hb
      rw [Lib.count_cons_eq, Nat.add_comm, Lib.splitK, index_eqP, if_neg (by decide), linesP, if_pos hc]
      show [] :: Lib.splitK [b] 0 (Lib.count l [b]) l = _
      rw [ih]
    · rw [Lib.count_cons_ne _ _ _ hb, linesP, if_neg (by rw [← hc]; exact hb), ← ih]
      by_cases hm : Lib.index l [c] = -1
      · rw [Lib.count_miss hm]
        rfl
      · have hge := Lib.index_ge l [c]
        obtain ⟨j, hj⟩ : ∃ j : Nat, Lib.index l [c] = j := ⟨(Lib.index l [c]).toNat, by omega⟩
        have hx : (if (Lib.index l [c] == -1) = true then (-1 : Int) else Lib.index l [c] + 1) = ((j + 1 : Nat) : Int) := by rw [if_neg (by simpa using hm), hj]; omega
        rw [Lib.count_hit (by simp) hj, Nat.add_comm, Lib.splitK, Lib.splitK, index_neP l hb, hx, hj, if_neg (by rw [beq_iff_eq]; omega), if_neg (by rw [beq_iff_eq]; omega)]
        simp
/-- what strings.Split makes of a text -/
theorem split_is (s : ByteArray) : (Lib.splitB ⟨#[10]⟩ 0 (Lib.countB s ⟨#[10]⟩) s).map (·.data.toList) = linesP s.data.toList := by
  rw [Lib.splitB_data]
  exact splitK_is 10 rfl s.data.toList
theorem linesP_app : ∀ (x l : List UInt8), (∀ b ∈ x, b ≠ 10) → linesP (x ++ 10 :: l) = x :: linesP l
  | [], l, _ => by show linesP (10 :: l) = _; rw [linesP, if_pos rfl]
  | b :: x, l, h => by
    rw [List.cons_append, linesP, if_neg (h b (by simp)), linesP_app x l fun y hy => h y (by simp [hy])]
theorem cutP_app : ∀ (x l : List UInt8), (∀ b ∈ x, b ≠ 32) → cutP (x ++ 32 :: l) = (x, l)
  | [], l, _ => by show cutP (32 :: l) = _; rw [cutP, if_pos rfl]
  | b :: x, l, h => by
    rw [List.cons_append, cutP, if_neg (h b (by simp)), cutP_app x l fun y hy => h y (by simp [hy])]

/-- what quote.Unlit makes of a text -/
def unlR (r : List UInt8) : Option (List UInt8 × Nat) := if bt r 0 = 39 ∨ bt r 0 = 34 then unl (bt r 0) sgU.data.toList r.length (r.drop 1) else none
/-- a text that is a literal from its beginning to its end -/
def unlW (r : List UInt8) : Option (List UInt8) := match unlR r with
  | some (o, c) => if 1 + c = r.length then some o else none
  | none => none
/-- what quote.Undec answers -/
def undR (l : List UInt8) : Option Int := match Lib.atoiAll l with
  | .ok v => if 9 < l.length ∨ v < 0 ∨ Lib.itoa v ≠ l then none else some v
  | _ => none
def noC : Cs := (0, 0, ⟨#[]⟩)
def finC (k n : Int) (r : List UInt8) : Cs × Int := match unlW r with
  | some o => ((k, n, ⟨o.toArray⟩), fitC (k, n, ⟨o.toArray⟩))
  | none => (noC, 4)
/-- what book.one answers of a line -/
def oneR (l : List UInt8) : Cs × Int :=
  if (cutP l).1 = wdA then finC 1 0 (cutP l).2
  else if (cutP l).1 = wdR then finC 2 0 (cutP l).2
  else if (cutP l).1 = wdP then (match undR (cutP (cutP l).2).1 with
    | some n => finC 4 n (cutP (cutP l).2).2
    | none => (noC, 4))
  else (noC, 4)
/-- a line that says nothing -/
def skipL (l : List UInt8) : Prop := l = [] ∨ bt l 0 = 35
instance (l : List UInt8) : Decidable (skipL l) := by unfold skipL; infer_instance
/-- what book.Read answers: the lines from i on, what was read so far -/
def readR : List (List UInt8) → Nat → List Cs → List Cs × Int × Int
  | [], _, acc => (acc, 0, 0)
  | x :: l, i, acc => if skipL x then readR l (i + 1) acc else
    if (oneR x).2 = 0 then (if acc.length = 40 then ([], (i : Int) + 1, 2) else readR l (i + 1) (acc ++ [(oneR x).1])) else ([], (i : Int) + 1, (oneR x).2)
def breadR (s : List UInt8) : List Cs × Int × Int := if 2000 < s.length then ([], 0, 2) else readR (linesP s) 0 []

theorem unl_lit (t : List UInt8) : unlW (litL t) = some t := by
  have h0 : bt (litL t) 0 = 39 := rfl
  have hl : (litL t).length = (encAll false t).length + 2 := by simp [litL]
  have hd : (litL t).drop 1 = encAll false t ++ 39 :: [] := rfl
  unfold unlW unlR
  rw [h0, if_pos (.inl rfl), hd, unl_enc [] t _ (by omega)]
  simp only
  rw [if_pos (by omega)]
theorem dd_digs (u : Nat) : ∀ b ∈ Lib.decDigits u, 48 ≤ b.toNat ∧ b.toNat ≤ 57 := by
  induction u using Nat.strongRecOn with
  | _ u ih =>
    intro b hb
    by_cases h : u < 10
    · rw [dd_small h, List.mem_singleton] at hb
      rw [hb, dig_nat h]; omega
    · rw [dd_big h, List.mem_append, List.mem_singleton] at hb
      rcases hb with hb | rfl
      · exact ih (u / 10) (by omega) b hb
      · rw [dig_nat (by omega)]; omega
theorem und_dec {n : Int} (h0 : 0 ≤ n) (h1 : n < 1000000000) : undR (Lib.itoa n) = some n := by
  unfold undR
  rw [atoi_itoa (by omega) (by omega)]
  simp only
  rw [if_neg (by have := itoa_nine h0 h1; rintro (h | h | h); omega; omega; exact h rfl)]
theorem fit_60x {c : Cs} (h : fitC c = 0) : c.2.2.size ≤ 60 := by
  unfold fitC at h
  split at h
  · omega
  · omega
theorem fit_kindx {k m : Int} {t : ByteArray} (h : fitC (k, m, t) = 0) : (k = 1 ∧ m = 0) ∨ (k = 2 ∧ m = 0) ∨ (k = 4 ∧ 0 ≤ m ∧ m ≤ 60) := by
  have h60 := fit_60x h
  simp only at h60
  unfold fitC at h
  simp only at h
  split at h
  · omega
  split at h
  · rename_i h12
    split at h
    · omega
    · omega
  split at h
  · split at h
    · omega
    · omega
  · omega
theorem fin_lit (k n : Int) (t : ByteArray) : finC k n (litL t.data.toList) = ((k, n, t), fitC (k, n, t)) := by
  unfold finC
  rw [unl_lit]
/-- a case that was printed is read as it was -/
theorem one_line {c : Cs} (h : fitC c = 0) : oneR (lineC c) = (c, 0) := by
  obtain ⟨k, m, t⟩ := c
  rcases fit_kindx h with ⟨rfl, rfl⟩ | ⟨rfl, rfl⟩ | ⟨rfl, h0, h1⟩
  · have e : lineC (1, 0, t) = wdA ++ 32 :: litL t.data.toList := by unfold lineC headC; simp
    unfold oneR
    rw [e, cutP_app _ _ (by decide)]
    simp only
    rw [if_pos trivial, fin_lit, h]
  · have e : lineC (2, 0, t) = wdR ++ 32 :: litL t.data.toList := by unfold lineC headC; simp
    unfold oneR
    rw [e, cutP_app _ _ (by decide)]
    simp only
    rw [if_neg (by decide), if_pos trivial, fin_lit, h]
  · have e : lineC (4, m, t) = wdP ++ 32 :: (Lib.itoa m ++ 32 :: litL t.data.toList) := by unfold lineC headC; simp
    have hd : ∀ b ∈ Lib.itoa m, b ≠ 32 := by
      unfold Lib.itoa
      rw [if_neg (by omega)]
      intro b hb e
      have := dd_digs _ b hb
      rw [e] at this
      exact absurd this.1 (by decide)
    unfold oneR
    rw [e, cutP_app _ _ (by decide)]
    simp only
    rw [if_neg (by decide), if_neg (by decide), if_pos trivial, cutP_app _ _ hd]
    simp only
    rw [und_dec h0 (by omega)]
    simp only
    rw [fin_lit, h]
theorem line_10 {c : Cs} (h : fitC c = 0) : (∀ b ∈ lineC c, b ≠ 10) ∧ ¬ skipL (lineC c) := by
  obtain ⟨k, m, t⟩ := c
  have hA : ∀ b ∈ wdA, b ≠ 10 := by decide
  have hR : ∀ b ∈ wdR, b ≠ 10 := by decide
  have hP : ∀ b ∈ wdP, b ≠ 10 := by decide
  have hl : ∀ b ∈ litL t.data.toList, b ≠ 10 := fun b hb e => by have := litL_seen _ b hb; rw [e] at this; exact absurd this.1 (by decide)
  rcases fit_kindx h with ⟨rfl, rfl⟩ | ⟨rfl, rfl⟩ | ⟨rfl, h0, h1⟩
  · have e : lineC (1, 0, t) = wdA ++ 32 :: litL t.data.toList := by unfold lineC headC; simp
    rw [e]
    refine ⟨fun b hb => ?_, ?_⟩
    · rcases List.mem_append.1 hb with hb | hb
      · exact hA b hb
      · rcases List.mem_cons.1 hb with rfl | hb
        · decide
        · exact hl b hb
    · rintro (h | h)
      · simp [wdA] at h
      · exact absurd (show (97 : Nat) = 35 from h) (by decide)
  · have e : lineC (2, 0, t) = wdR ++ 32 :: litL t.data.toList := by unfold lineC headC; simp
    rw [e]
    refine ⟨fun b hb => ?_, ?_⟩
    · rcases List.mem_append.1 hb with hb | hb
      · exact hR b hb
      · rcases List.mem_cons.1 hb with rfl | hb
        · decide
        · exact hl b hb
    · rintro (h | h)
      · simp [wdR] at h
      · exact absurd (show (114 : Nat) = 35 from h) (by decide)
  · have e : lineC (4, m, t) = wdP ++ 32 :: (Lib.itoa m ++ 32 :: litL t.data.toList) := by unfold lineC headC; simp
    have hd : ∀ b ∈ Lib.itoa m, b ≠ 10 := by
      unfold Lib.itoa
      rw [if_neg (by omega)]
      intro b hb e
      have := dd_digs _ b hb
      rw [e] at this
      exact absurd this.1 (by decide)
    rw [e]
    refine ⟨fun b hb => ?_, ?_⟩
    · rcases List.mem_append.1 hb with hb | hb
      · exact hP b hb
      · rcases List.mem_cons.1 hb with rfl | hb
        · decide
        · rcases List.mem_append.1 hb with hb | hb
          · exact hd b hb
          · rcases List.mem_cons.1 hb with rfl | hb
            · decide
            · exact hl b hb
    · rintro (h | h)
      · simp [wdP] at h
      · exact absurd (show (112 : Nat) = 35 from h) (by decide)
theorem read_lines : ∀ (l : List Cs) (i : Nat) (acc : List Cs), (∀ c ∈ l, fitC c = 0) → acc.length + l.length ≤ 40 → readR (linesP (bookL l)) i acc = (acc ++ l, 0, 0)
  | [], i, acc, _, _ => by
    show readR [[]] i acc = _
    rw [readR, if_pos (.inl rfl), readR, List.append_nil]
  | c :: l, i, acc, h, hl => by
    obtain ⟨h1, h2⟩ := line_10 (h c (by simp))
    rw [show bookL (c :: l) = lineC c ++ 10 :: bookL l by simp [bookL], linesP_app _ _ h1, readR, if_neg h2, one_line (h c (by simp)), if_pos rfl, if_neg (by simp at hl; omega), read_lines l _ _ (fun x hx => h x (by simp [hx])) (by simp at hl ⊢; omega)]
    simp
theorem chk_fitx : ∀ {l : List Cs}, chkC l = 0 → ∀ c ∈ l, fitC c = 0
  | [], _, c, hc => by cases hc
  | x :: l, h, c, hc => by
    rw [chkC] at h
    split at h
    · rename_i hn; exact absurd h hn
    · rename_i hn
      rcases List.mem_cons.1 hc with rfl | hc
      · exact Classical.byContradiction hn
      · exact chk_fitx h c hc
theorem chk_allx : ∀ {l : List Cs}, (∀ c ∈ l, fitC c = 0) → chkC l = 0
  | [], _ => rfl
  | c :: l, h => by rw [chkC, if_neg (by simp [h c (by simp)])]; exact chk_allx fun x hx => h x (by simp [hx])
/-- P60, P61: what is printed is read as it was -/
theorem book_back {l : List Cs} (h : bchkC l = 0) : (2000 < (bookL l).length ∧ breadR (bookL l) = ([], 0, 2)) ∨ ((bookL l).length ≤ 2000 ∧ breadR (bookL l) = (l, 0, 0)) := by
  unfold bchkC at h
  split at h
  · cases h
  · rename_i h40
    rcases Nat.lt_or_ge 2000 (bookL l).length with h2 | h2
    · exact .inl ⟨h2, by unfold breadR; rw [if_pos h2]⟩
    · refine .inr ⟨h2, ?_⟩
      unfold breadR
      rw [if_neg (by omega), read_lines l 0 [] (chk_fitx h) (by simp; omega)]
      rfl
end Go.Proofs.YtndhbdbfjkmloaaGreatDoor
namespace Go.Proofs.YtndhbdbfjkmloaaGreatDoor
open Go.Shelf
def sh_laysM171_ren : Go.Shelf.Ren := ⟨fun | 171 => 28 | 243 => 44 | 246 => 60 | 283 => 81 | 284 => 82 | 285 => 83 | 286 => 84 | 129 => 101 | 317 => 100 | 318 => 102 | 319 => 103 | 320 => 104 | 337 => 111 | 338 => 112 | n => n, fun | 3 => 3 | 9 => 9 | 2 => 2 | 4 => 4 | 171 => 143 | 0 => 0 | 53 => 45 | 37 => 106 | 5 => 5 | 173 => 146 | 212 => 160 | 51 => 161 | 20 => 20 | 213 => 162 | 46 => 104 | 232 => 184 | 233 => 185 | n => n, fun | 17 => 1 | 18 => 6 | 19 => 7 | n => n⟩
theorem sh_laysM171 : Go.Proofs.LaysM.n171 Tryz.prog sh_laysM171_ren := {
  mixed := by kernel_rfl
  f129 := Tryz.func101.trans (congrArg some (by kernel_rfl))
  f171 := Tryz.func28.trans (congrArg some (by kernel_rfl))
  f243 := Tryz.func44.trans (congrArg some (by kernel_rfl))
  f246 := Tryz.func60.trans (congrArg some (by kernel_rfl))
  f283 := Tryz.func81.trans (congrArg some (by kernel_rfl))
  f284 := Tryz.func82.trans (congrArg some (by kernel_rfl))
  f285 := Tryz.func83.trans (congrArg some (by kernel_rfl))
  f286 := Tryz.func84.trans (congrArg some (by kernel_rfl))
  f317 := Tryz.func100.trans (congrArg some (by kernel_rfl))
  f318 := Tryz.func102.trans (congrArg some (by kernel_rfl))
  f319 := Tryz.func103.trans (congrArg some (by kernel_rfl))
  f320 := Tryz.func104.trans (congrArg some (by kernel_rfl))
  f337 := Tryz.func111.trans (congrArg some (by kernel_rfl))
  f338 := Tryz.func112.trans (congrArg some (by kernel_rfl))
  t0 := Tryz.underlying0
  a0 := Tryz.isAgg0
  z0 := Tryz.sizeOf0
  v0 := Tryz.zeroValue0
  t2 := Tryz.underlying2
  a2 := Tryz.isAgg2
  z2 := Tryz.sizeOf2
  v2 := Tryz.zeroValue2
  t3 := Tryz.underlying3
  a3 := Tryz.isAgg3
  z3 := Tryz.sizeOf3
  v3 := Tryz.zeroValue3
  t4 := Tryz.underlying4
  a4 := Tryz.isAgg4
  z4 := Tryz.sizeOf4
  v4 := Tryz.zeroValue4
  t5 := Tryz.underlying5
  a5 := Tryz.isAgg5
  z5 := Tryz.sizeOf5
  v5 := Tryz.zeroValue5
  t9 := Tryz.underlying9
  a9 := Tryz.isAgg9
  z9 := Tryz.sizeOf9
  v9 := Tryz.zeroValue9
  t20 := Tryz.underlying20
  a20 := Tryz.isAgg20
  z20 := Tryz.sizeOf20
  v20 := Tryz.zeroValue20
  t37 := Tryz.underlying106
  a37 := Tryz.isAgg106
  z37 := Tryz.sizeOf106
  v37 := Tryz.zeroValue106
  t46 := Tryz.underlying104
  a46 := Tryz.isAgg104
  z46 := Tryz.sizeOf104
  v46 := Tryz.zeroValue104
  t51 := Tryz.underlying161
  a51 := Tryz.isAgg161
  z51 := Tryz.sizeOf161
  v51 := Tryz.zeroValue161
  t53 := Tryz.underlying45
  a53 := Tryz.isAgg45
  z53 := Tryz.sizeOf45
  v53 := Tryz.zeroValue45
  t171 := Tryz.underlying143
  a171 := Tryz.isAgg143
  z171 := Tryz.sizeOf143
  v171 := Tryz.zeroValue143
  t173 := Tryz.underlying146
  a173 := Tryz.isAgg146
  z173 := Tryz.sizeOf146
  v173 := Tryz.zeroValue146
  t212 := Tryz.underlying160
  a212 := Tryz.isAgg160
  z212 := Tryz.sizeOf160
  v212 := Tryz.zeroValue160
  t213 := Tryz.underlying162
  a213 := Tryz.isAgg162
  z213 := Tryz.sizeOf162
  t232 := Tryz.underlying184
  a232 := Tryz.isAgg184
  z232 := Tryz.sizeOf184
  v232 := Tryz.zeroValue184
  t233 := Tryz.underlying185
  a233 := Tryz.isAgg185
  z233 := Tryz.sizeOf185
  v233 := Tryz.zeroValue185
  g17 := by kernel_rfl
  g18 := by kernel_rfl
  g19 := by kernel_rfl
  i0 := by kernel_rfl
  i2 := by kernel_rfl
  i3 := by kernel_rfl
  i4 := by kernel_rfl
  i5 := by kernel_rfl
  i9 := by kernel_rfl
  i20 := by kernel_rfl
  i37 := by kernel_rfl
  i46 := by kernel_rfl
  i51 := by kernel_rfl
  i53 := by kernel_rfl
  i171 := by kernel_rfl
  i173 := by kernel_rfl
  i212 := by kernel_rfl
  i232 := by kernel_rfl
  i233 := by kernel_rfl
  m17 := by kernel_rfl
  m18 := by kernel_rfl
  m19 := by kernel_rfl }
open Go.RowKit Go.Sort Go.Lib in
theorem sh_strconv_Itoa (n : Int) (h0 : -9223372036854775808 ≤ n) (h1 : n ≤ 9223372036854775807) (w : World) (htab : Lib.TabIs Tryz.prog w "internal/strconv.uint64pow10" .u64 Lib.pow10Tab) :
    Calls Tryz.prog 28 #[.int .i64 n] w fun e w' => e = .returned (.string ⟨(Lib.itoa n).toArray⟩) ∧ ∃ k os, w' = grow (w.drewN k) os := Any.strconv_Itoa sh_laysM171 n h0 h1 w htab
end Go.Proofs.YtndhbdbfjkmloaaGreatDoor
namespace Go.Proofs.YtndhbdbfjkmloaaGreatDoor
open Go.Shelf
def sh_laysC172_ren : Go.Shelf.Ren := ⟨fun | 172 => 50 | 244 => 66 | 245 => 67 | 247 => 90 | 279 => 91 | 280 => 92 | 281 => 93 | 282 => 94 | 287 => 106 | 316 => 107 | 171 => 28 | 205 => 108 | 321 => 113 | 322 => 114 | 243 => 44 | 246 => 60 | 283 => 81 | 284 => 82 | 285 => 83 | 286 => 84 | 129 => 101 | 317 => 100 | 318 => 102 | 319 => 103 | 320 => 104 | 337 => 111 | 338 => 112 | n => n, fun | 9 => 9 | 3 => 3 | 75 => 109 | 76 => 110 | 4 => 4 | 5 => 5 | 167 => 149 | 37 => 106 | 0 => 0 | 85 => 150 | 2 => 2 | 168 => 152 | 53 => 45 | 175 => 171 | 46 => 104 | 210 => 174 | 127 => 180 | 145 => 183 | 143 => 181 | 21 => 21 | 171 => 143 | 173 => 146 | 212 => 160 | 51 => 161 | 20 => 20 | 213 => 162 | 232 => 184 | 233 => 185 | 80 => 186 | n => n, fun | 15 => 4 | 16 => 5 | 17 => 1 | 18 => 6 | 19 => 7 | n => n⟩
theorem sh_laysC172 : Go.Proofs.LaysC.n172 Tryz.prog sh_laysC172_ren := {
  mixed := by kernel_rfl
  f129 := Tryz.func101.trans (congrArg some (by kernel_rfl))
  f171 := Tryz.func28.trans (congrArg some (by kernel_rfl))
  f172 := Tryz.func50.trans (congrArg some (by kernel_rfl))
  f205 := Tryz.func108.trans (congrArg some (by kernel_rfl))
  f243 := Tryz.func44.trans (congrArg some (by kernel_rfl))
  f244 := Tryz.func66.trans (congrArg some (by kernel_rfl))
  f245 := Tryz.func67.trans (congrArg some (by kernel_rfl))
  f246 := Tryz.func60.trans (congrArg some (by kernel_rfl))
  f247 := Tryz.func90.trans (congrArg some (by kernel_rfl))
  f279 := Tryz.func91.trans (congrArg some (by kernel_rfl))
  f280 := Tryz.func92.trans (congrArg some (by kernel_rfl))
  f281 := Tryz.func93.trans (congrArg some (by kernel_rfl))
  f282 := Tryz.func94.trans (congrArg some (by kernel_rfl))
  f283 := Tryz.func81.trans (congrArg some (by kernel_rfl))
  f284 := Tryz.func82.trans (congrArg some (by kernel_rfl))
  f285 := Tryz.func83.trans (congrArg some (by kernel_rfl))
  f286 := Tryz.func84.trans (congrArg some (by kernel_rfl))
  f287 := Tryz.func106.trans (congrArg some (by kernel_rfl))
  f316 := Tryz.func107.trans (congrArg some (by kernel_rfl))
  f317 := Tryz.func100.trans (congrArg some (by kernel_rfl))
  f318 := Tryz.func102.trans (congrArg some (by kernel_rfl))
  f319 := Tryz.func103.trans (congrArg some (by kernel_rfl))
  f320 := Tryz.func104.trans (congrArg some (by kernel_rfl))
  f321 := Tryz.func113.trans (congrArg some (by kernel_rfl))
  f322 := Tryz.func114.trans (congrArg some (by kernel_rfl))
  f337 := Tryz.func111.trans (congrArg some (by kernel_rfl))
  f338 := Tryz.func112.trans (congrArg some (by kernel_rfl))
  t0 := Tryz.underlying0
  a0 := Tryz.isAgg0
  z0 := Tryz.sizeOf0
  v0 := Tryz.zeroValue0
  t2 := Tryz.underlying2
  a2 := Tryz.isAgg2
  z2 := Tryz.sizeOf2
  v2 := Tryz.zeroValue2
  t3 := Tryz.underlying3
  a3 := Tryz.isAgg3
  z3 := Tryz.sizeOf3
  v3 := Tryz.zeroValue3
  t4 := Tryz.underlying4
  a4 := Tryz.isAgg4
  z4 := Tryz.sizeOf4
  v4 := Tryz.zeroValue4
  t5 := Tryz.underlying5
  a5 := Tryz.isAgg5
  z5 := Tryz.sizeOf5
  v5 := Tryz.zeroValue5
  t9 := Tryz.underlying9
  a9 := Tryz.isAgg9
  z9 := Tryz.sizeOf9
  v9 := Tryz.zeroValue9
  t20 := Tryz.underlying20
  a20 := Tryz.isAgg20
  z20 := Tryz.sizeOf20
  v20 := Tryz.zeroValue20
  t21 := Tryz.underlying21
  a21 := Tryz.isAgg21
  z21 := Tryz.sizeOf21
  v21 := Tryz.zeroValue21
  t37 := Tryz.underlying106
  a37 := Tryz.isAgg106
  z37 := Tryz.sizeOf106
  v37 := Tryz.zeroValue106
  t46 := Tryz.underlying104
  a46 := Tryz.isAgg104
  z46 := Tryz.sizeOf104
  v46 := Tryz.zeroValue104
  t51 := Tryz.underlying161
  a51 := Tryz.isAgg161
  z51 := Tryz.sizeOf161
  v51 := Tryz.zeroValue161
  t53 := Tryz.underlying45
  a53 := Tryz.isAgg45
  z53 := Tryz.sizeOf45
  v53 := Tryz.zeroValue45
  t75 := Tryz.underlying109
  a75 := Tryz.isAgg109
  z75 := Tryz.sizeOf109
  v75 := Tryz.zeroValue109
  t76 := Tryz.underlying110
  a76 := Tryz.isAgg110
  z76 := Tryz.sizeOf110
  v76 := Tryz.zeroValue110
  t85 := Tryz.underlying150
  a85 := Tryz.isAgg150
  z85 := Tryz.sizeOf150
  v85 := Tryz.zeroValue150
  t127 := Tryz.underlying180
  a127 := Tryz.isAgg180
  z127 := Tryz.sizeOf180
  v127 := Tryz.zeroValue180
  t143 := Tryz.underlying181
  a143 := Tryz.isAgg181
  z143 := Tryz.sizeOf181
  v143 := Tryz.zeroValue181
  t145 := Tryz.underlying183
  a145 := Tryz.isAgg183
  z145 := Tryz.sizeOf183
  v145 := Tryz.zeroValue183
  t167 := Tryz.underlying149
  a167 := Tryz.isAgg149
  z167 := Tryz.sizeOf149
  v167 := Tryz.zeroValue149
  t168 := Tryz.underlying152
  a168 := Tryz.isAgg152
  z168 := Tryz.sizeOf152
  v168 := Tryz.zeroValue152
  t171 := Tryz.underlying143
  a171 := Tryz.isAgg143
  z171 := Tryz.sizeOf143
  v171 := Tryz.zeroValue143
  t173 := Tryz.underlying146
  a173 := Tryz.isAgg146
  z173 := Tryz.sizeOf146
  v173 := Tryz.zeroValue146
  t175 := Tryz.underlying171
  a175 := Tryz.isAgg171
  z175 := Tryz.sizeOf171
  v175 := Tryz.zeroValue171
  t210 := Tryz.underlying174
  a210 := Tryz.isAgg174
  z210 := Tryz.sizeOf174
  v210 := Tryz.zeroValue174
  t212 := Tryz.underlying160
  a212 := Tryz.isAgg160
  z212 := Tryz.sizeOf160
  v212 := Tryz.zeroValue160
  t213 := Tryz.underlying162
  a213 := Tryz.isAgg162
  z213 := Tryz.sizeOf162
  t232 := Tryz.underlying184
  a232 := Tryz.isAgg184
  z232 := Tryz.sizeOf184
  v232 := Tryz.zeroValue184
  t233 := Tryz.underlying185
  a233 := Tryz.isAgg185
  z233 := Tryz.sizeOf185
  v233 := Tryz.zeroValue185
  g15 := by kernel_rfl
  g16 := by kernel_rfl
  g17 := by kernel_rfl
  g18 := by kernel_rfl
  g19 := by kernel_rfl
  t80 := Tryz.underlying186
  a80 := Tryz.isAgg186
  z80 := Tryz.sizeOf186
  v80 := Tryz.zeroValue186
  i0 := by kernel_rfl
  i2 := by kernel_rfl
  i3 := by kernel_rfl
  i4 := by kernel_rfl
  i5 := by kernel_rfl
  i9 := by kernel_rfl
  i20 := by kernel_rfl
  i21 := by kernel_rfl
  i37 := by kernel_rfl
  i46 := by kernel_rfl
  i51 := by kernel_rfl
  i53 := by kernel_rfl
  i75 := by kernel_rfl
  i76 := by kernel_rfl
  i80 := by kernel_rfl
  i85 := by kernel_rfl
  i127 := by kernel_rfl
  i143 := by kernel_rfl
  i145 := by kernel_rfl
  i167 := by kernel_rfl
  i168 := by kernel_rfl
  i171 := by kernel_rfl
  i173 := by kernel_rfl
  i175 := by kernel_rfl
  i210 := by kernel_rfl
  i212 := by kernel_rfl
  i232 := by kernel_rfl
  i233 := by kernel_rfl
  m15 := by kernel_rfl
  m16 := by kernel_rfl
  m17 := by kernel_rfl
  m18 := by kernel_rfl
  m19 := by kernel_rfl
  c0 := by kernel_rfl
  c2 := by kernel_rfl
  c3 := by kernel_rfl
  c4 := by kernel_rfl
  c5 := by kernel_rfl
  c9 := by kernel_rfl
  c20 := by kernel_rfl
  c21 := by kernel_rfl
  c37 := by kernel_rfl
  c46 := by kernel_rfl
  c51 := by kernel_rfl
  c53 := by kernel_rfl
  c75 := by kernel_rfl
  c76 := by kernel_rfl
  c80 := by kernel_rfl
  c85 := by kernel_rfl
  c127 := by kernel_rfl
  c143 := by kernel_rfl
  c145 := by kernel_rfl
  c167 := by kernel_rfl
  c168 := by kernel_rfl
  c171 := by kernel_rfl
  c173 := by kernel_rfl
  c175 := by kernel_rfl
  c210 := by kernel_rfl
  c212 := by kernel_rfl
  c213 := by kernel_rfl
  c232 := by kernel_rfl
  c233 := by kernel_rfl }
open Go.RowKit in
theorem sh_strconv_Atoi_ok (s : ByteArray) (hmax : s.size ≤ 9223372036854775806) (v : Int) (h : Lib.atoiAll s.data.toList = .ok v) (w : World) :
    Calls Tryz.prog 50 #[.string s] w fun e w' => e = .returned (.tuple #[.int .i64 v, .nilIface]) ∧ (w' = w ∨ ∃ t, w' = Lib.bytesWorld w 5 t) := Any.strconv_Atoi_ok sh_laysC172 s hmax v h w
open Go.RowKit in
theorem sh_strconv_Atoi_syntax (s : ByteArray) (hlim : s.size ≤ 281474976710656) (h : Lib.atoiAll s.data.toList = .«syntax») (ev : Value) (w : World) (hv : w.cell? ⟨4, 0, none⟩ = some ev) (hev : ev = .nilIface ∨ ∃ te pe, ev = .iface te pe) :
    Calls Tryz.prog 50 #[.string s] w fun e w' => ∃ N, e = .returned (.tuple #[.int .i64 (0), .iface 152 (.pointer (some ⟨N, 0, none⟩))]) ∧ w.heap.size ≤ N ∧ w'.heap[N]? = some (.cells #[.string ⟨#[65, 116, 111, 105]⟩, .string s, ev] 174 (0, 0)) ∧ Below w.heap.size w w' := Any.strconv_Atoi_syntax sh_laysC172 s hlim h ev w hv hev
open Go.RowKit in
theorem sh_strconv_Atoi_range (s : ByteArray) (hlim : s.size ≤ 281474976710656) (h : Lib.atoiAll s.data.toList = .range) (ev : Value) (w : World) (hv : w.cell? ⟨5, 0, none⟩ = some ev) (hev : ev = .nilIface ∨ ∃ te pe, ev = .iface te pe) :
    Calls Tryz.prog 50 #[.string s] w fun e w' => ∃ N, e = .returned (.tuple #[.int .i64 (Lib.atoiSat s.data.toList), .iface 152 (.pointer (some ⟨N, 0, none⟩))]) ∧ w.heap.size ≤ N ∧ w'.heap[N]? = some (.cells #[.string ⟨#[65, 116, 111, 105]⟩, .string s, ev] 174 (0, 0)) ∧ Below w.heap.size w w' := Any.strconv_Atoi_range sh_laysC172 s hlim h ev w hv hev
end Go.Proofs.YtndhbdbfjkmloaaGreatDoor
namespace Go.Proofs.YtndhbdbfjkmloaaGreatDoor
open Go.Shelf
def sh_lays145_ren : Go.Shelf.Ren := ⟨fun | 145 => 31 | 220 => 49 | 219 => 65 | 217 => 61 | 225 => 87 | 224 => 88 | 267 => 89 | 266 => 85 | 314 => 105 | n => n, fun | 9 => 9 | 4 => 4 | 59 => 82 | 3 => 3 | 5 => 5 | 46 => 104 | 146 => 169 | 51 => 161 | n => n, fun | 1 => 0 | n => n⟩
theorem sh_lays145 : Go.Proofs.Lays.n145 Tryz.prog sh_lays145_ren := {
  mixed := by kernel_rfl
  f145 := Tryz.func31.trans (congrArg some (by kernel_rfl))
  f217 := Tryz.func61.trans (congrArg some (by kernel_rfl))
  f219 := Tryz.func65.trans (congrArg some (by kernel_rfl))
  f220 := Tryz.func49.trans (congrArg some (by kernel_rfl))
  f224 := Tryz.func88.trans (congrArg some (by kernel_rfl))
  f225 := Tryz.func87.trans (congrArg some (by kernel_rfl))
  f266 := Tryz.func85.trans (congrArg some (by kernel_rfl))
  f267 := Tryz.func89.trans (congrArg some (by kernel_rfl))
  f314 := Tryz.func105.trans (congrArg some (by kernel_rfl))
  t3 := Tryz.underlying3
  a3 := Tryz.isAgg3
  z3 := Tryz.sizeOf3
  v3 := Tryz.zeroValue3
  t4 := Tryz.underlying4
  a4 := Tryz.isAgg4
  z4 := Tryz.sizeOf4
  v4 := Tryz.zeroValue4
  t5 := Tryz.underlying5
  a5 := Tryz.isAgg5
  z5 := Tryz.sizeOf5
  v5 := Tryz.zeroValue5
  t9 := Tryz.underlying9
  a9 := Tryz.isAgg9
  z9 := Tryz.sizeOf9
  v9 := Tryz.zeroValue9
  t46 := Tryz.underlying104
  a46 := Tryz.isAgg104
  z46 := Tryz.sizeOf104
  v46 := Tryz.zeroValue104
  t51 := Tryz.underlying161
  a51 := Tryz.isAgg161
  z51 := Tryz.sizeOf161
  v51 := Tryz.zeroValue161
  t59 := Tryz.underlying82
  a59 := Tryz.isAgg82
  z59 := Tryz.sizeOf82
  v59 := Tryz.zeroValue82
  t146 := Tryz.underlying169
  a146 := Tryz.isAgg169
  z146 := Tryz.sizeOf169
  v146 := Tryz.zeroValue169
  g1 := by kernel_rfl }
open Go.RowKit Go.Lib in
theorem sh_strings_Cut (s sep : ByteArray) (m : Int) (w : World) (hs : s.size < 4294967281) (hm : w.cell? ⟨0, 0, none⟩ = some (.int .i64 m)) :
    Calls Tryz.prog 31 #[.string s, .string sep] w fun e w' => e = .returned (.tuple #[.string ⟨(Lib.cut s.data.toList sep.data.toList).1.toArray⟩, .string ⟨(Lib.cut s.data.toList sep.data.toList).2.1.toArray⟩, .bool (Lib.cut s.data.toList sep.data.toList).2.2]) ∧ ∃ n, w' = w.drewN n := Any.strings_Cut sh_lays145 s sep m w hs hm
end Go.Proofs.YtndhbdbfjkmloaaGreatDoor
namespace Go.Proofs.YtndhbdbfjkmloaaGreatDoor
open Go.RowKit

def itoaB (n : Int) : ByteArray := ⟨(Lib.itoa n).toArray⟩
theorem itoaB_size (n : Int) : (itoaB n).size = (Lib.itoa n).length := by show (Lib.itoa n).toArray.size = _; simp
abbrev TabP (w : World) : Prop := Lib.TabIs Tryz.prog w "internal/strconv.uint64pow10" .u64 Lib.pow10Tab
theorem gPow : Tryz.prog.globalNamed "internal/strconv.uint64pow10" = some 1 := by kernel_rfl
theorem TabP.below {B : Nat} {w w' : World} (h : TabP w) (hg : 1 < B) (hb : Below B w w') : TabP w' := by
  unfold TabP Lib.TabIs at h ⊢
  unfold World.var? at h ⊢
  rw [gPow] at h ⊢
  simp only [Option.bind_some] at h ⊢
  rw [hb.block _ hg]
  exact h
theorem grow_below (B : Nat) (w : World) (os : Array Obj) (h : B ≤ w.heap.size) : Below B w (Sort.grow w os) :=
  ⟨rfl, rfl, rfl, by simp [Sort.grow], fun k hk => by simp [Sort.grow, Array.getElem?_append, Nat.lt_of_lt_of_le hk h]⟩
theorem grow_below2 (w : World) (k : Nat) (os : Array Obj) : Below w.heap.size w (Sort.grow (w.drewN k) os) :=
  (below_drewN (Below.refl _ w) k).trans (grow_below _ _ _ (by simp))

theorem TabP.lt {w : World} (h : TabP w) : 1 < w.heap.size := by
  unfold TabP Lib.TabIs World.var? at h
  rw [gPow] at h
  simp only [Option.bind_some] at h
  rcases Nat.lt_or_ge 1 w.heap.size with h1 | h1
  · exact h1
  · rw [Array.getElem?_eq_none h1] at h
    cases h
theorem TabP.on {w w' : World} (h : TabP w) (hb : Below w.heap.size w w') : TabP w' := h.below h.lt hb
end Go.Proofs.YtndhbdbfjkmloaaGreatDoor
namespace Go.Proofs.YtndhbdbfjkmloaaGreatDoor
open Go.RowKit

set_option maxRecDepth 100000 in
set_option maxHeartbeats 4000000 in
theorem unlit_no (s : ByteArray) (w : World) (hs : s.size ≤ 4611686018427387904) (h0 : 0 < s.size) (q : Nat) (hq : bt s.data.toList 0 = q) (hq2 : q = 39 ∨ q = 34) (hs2 : s.size ≤ 100000)
    (ho : unl q sgU.data.toList s.size (s.data.toList.drop 1) = none) :
    Calls Tryz.prog 33 #[.string s] w fun e w' => e = .returned (.tuple #[.string ⟨#[]⟩, .int .i64 0, .int .i64 4]) ∧ Below w.heap.size w w' := by
  have HL := Lib.hid (size_list s)
  have hb0 := bt_of h0
  rw [hq] at hb0
  have HQ := Lib.hid hq
  have HO := Lib.hid ho
  clear hq ho
  have hne : (s.toList.isEmpty) = false := by
    rw [ByteArray.toList_eq]
    cases h : s.data.toList with
    | nil => have := HL.out; rw [h] at this; simp at this; omega
    | cons => rfl
  obtain ⟨i0, hi0, hz0, hz1, hz2⟩ := info_parts u8_info'
  have hqb : q < 256 := by omega
  have h39 : ((q : Int) != 39) = true ∧ ((q : Int) != 34) = false ∨ ((q : Int) != 39) = false := by
    rcases hq2 with rfl | rfl
    · right; decide
    · left; decide
  clear hq2
  rcases h39 with ⟨b1, b2⟩ | b1
  all_goals
    go_enter Tryz.func33, Tryz.ntmps33
    go_wp2_with fail
    go_loopw [5, 6, 7, 8] (fun v i _ _ wr => ∃ (k m f : Nat) (acc : List UInt8) (V : Option Addr) (cp : Nat), 1 ≤ k ∧ k ≤ s.size ∧ s.size - k < f ∧ i = .int .i64 k ∧ v = .slice V m cp ∧ wr.ownsRow w.heap.size 5 1 (.slice V m cp) m (u8s acc) ∧
      m < k ∧ unl q sgU.data.toList f (s.data.toList.drop k) = none ∧ Below w.heap.size w wr) (fun _ i _ _ _ => s.size - (intOf i).toNat)
    case atStart => exact ⟨1, 0, s.size, [], none, 0, by omega, by omega, by omega, rfl, rfl, ⟨rfl, .inl ⟨rfl, rfl⟩⟩, by omega, HO.out, Below.refl _ _⟩
    case round =>
      obtain ⟨k, m, f, acc, V, cp, hk1, hk, hf, rfl, rfl, hown, hmk, hun, hbw⟩ := hrel
      have hmacc : acc.length = m := by have := hown.1; rw [u8s_length] at this; omega
      have hsz := hbw.size
      obtain ⟨f', rfl⟩ : ∃ f', f = f' + 1 := ⟨f - 1, by omega⟩
      by_cases hkn : k < s.size
      · have hne' : s.data.toList.drop k ≠ [] := by
          intro h
          have := congrArg List.length h
          rw [List.length_drop, HL.out, List.length_nil] at this
          omega
        rw [unl_step _ _ _ hne', bt_drop] at hun
        have hbk := bt_of hkn
        have hk0 : (0 : Int) ≤ (k : Int) := by omega
        have hk1 : (k : Int) < (s.size : Int) := by omega
        by_cases hbq : bt s.data.toList k = q
        · rw [if_pos hbq] at hun
          cases hun
        · rw [if_neg hbq] at hun
          generalize hnn : nextN sgU.data.toList (s.data.toList.drop k) = nx at hun
          obtain ⟨b, n⟩ := nx
          have hnb := nextN_bd sgU.data.toList _ hne'
          rw [hnn] at hnb
          simp only at hnb hun
          obtain ⟨hn1, hn2, hn3⟩ := hnb
          rw [List.length_drop, HL.out] at hn1
          have HNN := Lib.hid hnn
          have hbne : (((bt s.data.toList k : Nat) : Int) == (q : Int)) = false := by rw [beq_eq_false_iff_ne]; omega
          by_cases hn0 : n = 0
          · subst hn0
            clear hun hnn hne' hbq
            go_wp2
            go_quiet (fail)
            go_wp2_with fail
            refine (nextq_any (s.extract k s.size) ⟨#[39, 34, 92]⟩ _ ?_).mono ?_
            · have := size_list (s.extract k s.size); rw [Lib.extract_to_end, List.length_drop, HL.out] at this; omega
            rw [Lib.extract_to_end]
            unfold NextQ
            rw [show (⟨#[39, 34, 92]⟩ : ByteArray).data.toList = sgU.data.toList from rfl, HNN.out]
            rintro e w2 ⟨rfl, d, rfl⟩
            go_wp2
            go_ret3
            exact ⟨rfl, below_drewN hbw _⟩
          · rw [if_neg hn0, List.drop_drop] at hun
            have hun2 := Option.map_eq_none_iff.1 hun
            have HREL := Lib.hid hun2
            have hbn : ((b : Int)) = ((UInt8.ofNat b).toNat : Int) := by simp; omega
            have HBN := Lib.hid hbn
            have hn00 : ((n : Int) == 0) = false := by rw [beq_eq_false_iff_ne]; omega
            have hlen : m + 1 ≤ 140737488351232 := by omega
            clear hun hun2 hnn hbn hne' hbq
            go_wp2
            go_quiet (fail)
            go_wp2_with fail
            refine (nextq_any (s.extract k s.size) ⟨#[39, 34, 92]⟩ _ ?_).mono ?_
            · have := size_list (s.extract k s.size); rw [Lib.extract_to_end, List.length_drop, HL.out] at this; omega
            rw [Lib.extract_to_end]
            unfold NextQ
            rw [show (⟨#[39, 34, 92]⟩ : ByteArray).data.toList = sgU.data.toList from rfl, HNN.out]
            rintro e w2 ⟨rfl, d, rfl⟩
            rw [HBN.out]
            generalize UInt8.ofNat b = B at *
            go_wp2_with (at_builtin; refine wpList_append_lies _ rfl _ _ _ rfl w.heap.size 5 i0 _ 1 1 Tryz.underlying106 hi0 hz0 hz1 hz2 rfl (by omega) (.slice V m cp) m _ rfl (hown.alloc _) ⟨wr.heap.size, 0, none⟩ 1 1 [.int .u8 B.toNat] rfl rfl (World.news_of_block (cs := #[.int .u8 B.toNat]) (t := 5) (fr := (0, 0)) (heap_alloc_new wr _)) (by simp [Value.oneCell']) (by omega) (by unfold maxLen; omega) (by omega) (by simp; omega) (wr.heap.size + 1) (by simp) ?_; intro gg cap w1 hown1 hgrow hat hlt)
            go_roundw
            case rel => exact ⟨k + n, m + 1, f', acc ++ [B], _, cap, by omega, by omega, by omega, by go_num, rfl, by rw [u8s_append]; exact hown1, by omega, HREL.out, below_app (below_drewN (hbw.alloc hsz _) _) (hown.alloc _) hgrow (by simp; omega) (Nat.le_refl _)⟩
            case measure => simp [intOf]; omega
      · obtain rfl : k = s.size := by omega
        clear hun
        go_wp2
        go_ret3
        exact ⟨rfl, hbw⟩
end Go.Proofs.YtndhbdbfjkmloaaGreatDoor
namespace Go.Proofs.YtndhbdbfjkmloaaGreatDoor

section
variable {P : Program} {ops : Array Oper} {md : Region.Mode} {C : World → Prop}
/-- the one in the midst: a call -/
def MidCall (P : Program) (o : Oper) (a : Act) (w : World) (K : Act → World → Prop) : Prop := match (execOp a.eval o).run P w with
  | .ok (.enter f args) w' => w' = w ∧ Calls P f args w (fun e w'' => ∃ v, e = .returned v ∧ K (a.put o.dst v) w'')
  | _ => False
theorem MidCall.wp {o : Oper} {a : Act} {w : World} {K : Act → World → Prop} {Q : Exit → Act → World → Prop} (h : MidCall P o a w K) : o.wp P a w K Q := by
  unfold MidCall at h
  unfold Oper.wp
  generalize (execOp a.eval o).run P w = r at *
  cases r with
  | ok n w' =>
    cases n <;> simp only at h <;> simp only [Oper.upon]
    case enter f args =>
      obtain ⟨e1, hc⟩ := h
      rw [e1]
      exact hc.mono fun e w'' ⟨v, he, hw''⟩ => by subst he; exact hw''
  | halt x w' => simp only at h

end
end Go.Proofs.YtndhbdbfjkmloaaGreatDoor
