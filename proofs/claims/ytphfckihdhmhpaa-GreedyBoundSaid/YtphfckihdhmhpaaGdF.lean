/- The walk of the law GreedyBound (Chvatal). -/
import Derived.Test.YtphfckihdhmhpaaGdE
import Derived.Deep.DeepCutAuto
import Derived.Laws.BitsLemmas
namespace Go.Proofs.Ytphfckihdhmhpaa
open Go.RowKit

def rows1 : List (List Int) := [[3]]
theorem rows1_check : chkR rows1 = 0 := by decide +kernel
theorem pick1 {l : List Nat} (P : PicksOk (2 * rowL rows1) (rows1.map says) l) (D : ∀ q ∈ rows1.map says, gainB (2 * rowL rows1) (unionB (rows1.map says) l) q = 0) : l = [0] := by
  have hd : ∀ (l : List Nat) (j : Nat) (q : Nat → Bool), (rows1.map says)[j]? = some q → gainB 2 (unionB (rows1.map says) l) q = gainB 2 (unionB (rows1.map says) l) (sayR (rows1.map says) j) := fun l j q h => by rw [sayR_of h]
  have hm : ∀ (j : Nat) (q : Nat → Bool), (rows1.map says)[j]? = some q → q ∈ rows1.map says := fun j q h => List.mem_of_getElem? h
  have hl : ∀ (j : Nat) (q : Nat → Bool), (rows1.map says)[j]? = some q → j < 1 := fun j q h => by have := getElem?_lt h; simpa [rows1] using this
  obtain ⟨q0, e0⟩ : ∃ q, (rows1.map says)[0]? = some q := ⟨_, rfl⟩
  have hN : 2 * rowL rows1 = 2 := rfl
  rw [hN] at P D
  cases l with
  | nil =>
    have := D q0 (hm 0 q0 e0)
    rw [hd _ 0 q0 e0] at this
    exact absurd this (by decide +kernel)
  | cons i l =>
    obtain ⟨r, hb⟩ := P 0 i rfl
    obtain rfl : i = 0 := by have := hl i r hb.at_; omega
    cases l with
    | nil => rfl
    | cons k l =>
      obtain ⟨r'', hb''⟩ := P 1 k rfl
      obtain rfl : k = 0 := by have := hl k r'' hb''.at_; omega
      have := hb''.pos
      rw [hd _ 0 r'' hb''.at_] at this
      have e : List.take 1 (0 :: 0 :: l) = [0] := rfl
      rw [e] at this
      exact absurd this (by decide +kernel)
theorem pick1_any (w : World) (b0 b1 : Nat) (h0 : Blk w b0 3 #[.int .i64 3]) (h1 : Blk w b1 63 #[.slice (some ⟨b0, 0, none⟩) 1 1]) :
    Calls Try.prog 35 #[.slice (some ⟨b1, 0, none⟩) 1 1] w fun e w' => ∃ V c, e = .returned (.tuple #[.slice V 1 c, .int .i64 0]) ∧ Below w.heap.size w w' := by
  have hr : RowsIs w w.heap.size rows1 (some ⟨b1, 0, none⟩) 1 := ⟨by decide, by unfold maxLen; omega, fun i r hr => by
    match i, hr with
    | 0, hr =>
      injection hr with hr
      subst hr
      exact ⟨_, some ⟨b0, 0, none⟩, 1, rfl, h1.lt, h1.cell 0, by decide, by unfold maxLen; omega, reads_block h0 rfl rfl h0.lt⟩
    | i + 1, hr => simp [rows1] at hr⟩
  have h := pick_any rows1 _ _ w hr
  refine Calls.mono (show Calls Try.prog 35 #[.slice (some ⟨b1, 0, none⟩) 1 1] w (PickQ rows1 w) from h) ?_
  rintro e w' ⟨V, c, l, rfl, hr, hb, -, -, -, -, -, hp⟩
  obtain ⟨P, D⟩ := hp rows1_check
  obtain rfl := pick1 P D
  exact ⟨V, c, by rw [rows1_check]; rfl, hb⟩
theorem RowsIs.take {w : World} {B : Nat} {rows : List (List Int)} {A : Option Addr} {cp : Nat} (h : RowsIs w B rows A cp) (m : Nat) : RowsIs w B (rows.take m) A cp :=
  ⟨Nat.le_trans (by rw [List.length_take]; omega) h.le, h.cap, fun i r hr => h.row i r (by
    rw [List.getElem?_take] at hr
    split at hr
    · exact hr
    · cases hr)⟩
/-- the numbers below k that a number has as bits -/
def bitsK (s k : Nat) : List Nat := (List.range k).filter fun i => s / 2 ^ i % 2 == 1
theorem bitsK_succ (s k : Nat) : bitsK s (k + 1) = bitsK s k ++ (if (s / 2 ^ k % 2 == 1) = true then [k] else []) := by
  unfold bitsK
  rw [List.range_succ, List.filter_append, List.filter_cons]
  rfl
theorem bitsK_len (s k : Nat) : (bitsK s k).length ≤ k := by
  unfold bitsK
  have := List.length_filter_le (fun i => s / 2 ^ i % 2 == 1) (List.range k)
  rwa [List.length_range] at this
theorem bitsK_lt {s k i : Nat} (h : i ∈ bitsK s k) : i < k := by
  unfold bitsK at h
  rw [List.mem_filter, List.mem_range] at h
  exact h.1
theorem i64_and1 (n : Int) : bits .and .i64 n 1 = n % 2 := by
  have h127 : (BitVec.ofInt 64 1).toNat = 2 ^ 1 - 1 := by decide
  have key : (BitVec.ofInt 64 n &&& BitVec.ofInt 64 1).toNat = (n % ((2 ^ 64 : Nat) : Int)).toNat % 2 ^ 1 := by
    rw [BitVec.toNat_and, BitVec.toNat_ofInt, h127, Nat.and_two_pow_sub_one_eq_mod]
  show IntKind.i64.wrap ((BitVec.ofInt 64 n &&& BitVec.ofInt 64 1).toNat : Nat) = n % 2
  rw [key, IntKind.wrap_i64]
  omega
theorem bit_at (t k : Nat) : bits .and .i64 ((t : Int) / 2 ^ k) 1 = ((t / 2 ^ k % 2 : Nat) : Int) := by
  rw [i64_and1]
  have : (t : Int) / 2 ^ k = ((t / 2 ^ k : Nat) : Int) := by rw [Int.natCast_ediv, Int.natCast_pow]; rfl
  rw [this]
  omega
theorem pow_le9 {n : Nat} (h : n ≤ 9) : 2 ^ n ≤ 512 := Nat.pow_le_pow_right (by omega) h
theorem shr_quo (i : Nat) (hi : 1 ≤ i) : ((1000000 : Int) + (i : Int) - 1).tdiv (i : Int) = (shr i : Nat) := by
  have : (1000000 : Int) + (i : Int) - 1 = ((1000000 + i - 1 : Nat) : Int) := by omega
  rw [this]
  rfl
theorem shr_le (i : Nat) (hi : 1 ≤ i) : shr i ≤ 1000000 := by
  have := shr_anti 1 i (by omega) hi
  have h1 : shr 1 = 1000000 := by decide
  omega
theorem sumC_le {c : Nat → Nat} {b : Nat} (h : ∀ i, 1 ≤ i → c i ≤ b) : ∀ m, sumC c m ≤ m * b
  | 0 => by simp [sumC]
  | m + 1 => by
    have := sumC_le h m
    have h1 := h (m + 1) (by omega)
    rw [sumC, Nat.add_mul, Nat.one_mul]
    omega

set_option maxRecDepth 100000 in
set_option maxHeartbeats 1000000 in
theorem walk_GreedyBound (rows : List (List Int)) (A : Option Addr) (c : Nat) (w : World) (hr : RowsIs w w.heap.size rows A c) :
    Calls Try.prog 9 #[.slice A rows.length c] w fun e w' => e = .returned (.bool true) ∧ Below w.heap.size w w' := by
  obtain ⟨i0, hi0, hz0, hz1, hz2⟩ := info_parts int_info
  have hle := hr.le
  have hcap := hr.cap
  unfold maxLen at hcap
  have h1 := pick1_any
  obtain ⟨R, hR, hR9, hRc⟩ : ∃ R, R = rows.take (min rows.length 9) ∧ R.length ≤ 9 ∧ R.length ≤ c := ⟨_, rfl, by rw [List.length_take]; omega, by rw [List.length_take]; omega⟩
  have hRl : R.length = min rows.length 9 := by rw [hR, List.length_take]; omega
  have hrR := hr.take (min rows.length 9)
  rw [← hR] at hrR
  have hpk := fun W (hW : Below w.heap.size w W) => pick_any R A c W ((hrR.on hW).more hW.size)
  have HR := Lib.hid hrR
  have H1 := Lib.hid h1
  have HPK := Lib.hid hpk
  clear hr h1 hpk hR hrR
  rcases Nat.lt_or_ge 9 rows.length with h9 | h9
  · have hmn : ((9 : Int) < (rows.length : Int)) := by omega
    have hRL : R.length = 9 := by omega
    go_enter Try.func9, Try.ntmps9
    go_wp2_with fail
    have k0 : Blk ((w.alloc (.cells #[.int .i64 3] 3)).alloc (.cells #[.slice (some ⟨w.heap.size, 0, none⟩) 1 1] 63)) w.heap.size 3 #[.int .i64 3] := (Blk.new w _ _).alloc _
    have k1 : Blk ((w.alloc (.cells #[.int .i64 3] 3)).alloc (.cells #[.slice (some ⟨w.heap.size, 0, none⟩) 1 1] 63)) (w.heap.size + 1) 63 #[.slice (some ⟨w.heap.size, 0, none⟩) 1 1] := blk_at (by simp)
    have hw4 : Below w.heap.size w ((w.alloc (.cells #[.int .i64 3] 3)).alloc (.cells #[.slice (some ⟨w.heap.size, 0, none⟩) 1 1] 63)) := (by repeat (first | exact Below.refl _ _ | assumption | refine Below.drew ?_ | refine below_drewN ?_ _ | refine Below.alloc ?_ (by first | omega | (simp; omega) | simp) _ | refine Below.setCell ?_ (by first | omega | (simp; omega) | simp) _))
    have h1 := H1.out _ _ _ k0 k1
    generalize ((w.alloc (.cells #[.int .i64 3] 3)).alloc (.cells #[.slice (some ⟨w.heap.size, 0, none⟩) 1 1] 63)) = w4 at h1 hw4 ⊢
    generalize w.heap.size + 1 = b1 at h1 ⊢
    clear k0 k1 H1
    refine h1.mono ?_
    clear h1
    rintro e w5 ⟨V5, c5, rfl, hb5⟩
    have hw5 := hw4.trans (hb5.mono hw4.size)
    clear hb5 hw4
    rw [hRL] at HPK
    go_wp2_with fail
    refine (HPK.out _ hw5).mono ?_
    rintro e w7 ⟨V7, c7, l, rfl, hr7, hb7, hl7, hlc, hcm, hVc, hno, hyes⟩
    have hw7 := hw5.trans (hb7.mono hw5.size)
    clear hb7 hw5 HPK hr7
    by_cases h0 : chkR R = 0
    · obtain ⟨hP, hD⟩ := hyes h0
      obtain ⟨h40, hL, hall⟩ := chkR_all h0
      have HA := Lib.hid hall
      have hsd := fun (W : World) (hW : Below w.heap.size w W) (m : List Nat) (V : Option Addr) (cl : Nat) (h : Reads W W.heap.size 1 V m.length (ints (natI m))) (hi : ∀ i ∈ m, i < R.length) (hm : m.length ≤ 1000) => said_any R A c m V cl w.heap.size W hW.size (HR.out.on hW) h0 h hi hm
      have hil : ∀ i ∈ l, i < R.length := fun i hi => by
        obtain ⟨k, hk⟩ := List.mem_iff_getElem?.1 hi
        have := greedy_lt hP hk
        rwa [List.length_map] at this
      have hga := greedy_all hD
      rw [hRL] at hsd hil
      rw [h0]
      generalize rowL R = L at hP hD hsd hL HA hga
      have hN : ∀ m, saidN (2 * L) (R.map says) m ≤ 240 := fun m => Nat.le_trans (cntN_le _ _) (by omega)
      have HSD := Lib.hid hsd
      have HP := Lib.hid hP
      have HIL := Lib.hid hil
      have HGA := Lib.hid hga
      have HN := Lib.hid hN
      have HRL := Lib.hid hRL
      have hz7 := hw7.size
      have hRLn : R.length ≤ 9 := hR9
      clear hsd hP hD hil hga hN hno hyes h0 hall hRc hRl
      go_wp2
      go_loopw [8, 9, 47] (fun vm _ i wr => ∃ k mo : Nat, k ≤ 9 ∧ i = .int .i64 k ∧ vm = .int .i64 mo ∧ mo ≤ 240 ∧ Hid (∀ (j : Nat) (r : List Int), j < k → R[j]? = some r → cntN (2 * L) (says r) ≤ mo) ∧ Below w.heap.size w wr) (fun _ _ i _ => 9 - (intOf i).toNat)
      case atStart => exact ⟨0, 0, by omega, rfl, rfl, by omega, fun j r h => by omega, hw7⟩
      case round =>
        obtain ⟨k, mo, hk, rfl, rfl, hmo, HM, hwr⟩ := hrel
        have hwz := hwr.size
        by_cases hkn : k < 9
        · have hx := List.getElem?_eq_getElem (l := R) (i := k) (by omega)
          generalize R[k]'(by omega) = r at hx
          obtain ⟨ad, Ai, ci, rfl, hab, hci, hlc', hmc', hri⟩ := (HR.out.on hwr).row k r hx
          obtain ⟨hrl, hrm⟩ := HA.out r (List.mem_of_getElem? hx)
          rw [hrl] at hci hri
          have hrs := rsaid_any Ai L ci r w.heap.size wr hri hwz hL hrm
          rw [saidK_len] at hrs
          have hcl := cntN_le (2 * L) (says r)
          have HX := Lib.hid hx
          have HM2 : ∀ mo', mo ≤ mo' → cntN (2 * L) (says r) ≤ mo' → ∀ (j : Nat) (r' : List Int), j < k + 1 → R[j]? = some r' → cntN (2 * L) (says r') ≤ mo' := fun mo' h1 h2 j r' hj hr' => by
            by_cases hjk : j = k
            · subst hjk
              rw [HX.out] at hr'
              injection hr' with hr'
              subst hr'
              exact h2
            · have := HM.out j r' (by omega) hr'
              omega
          generalize cntN (2 * L) (says r) = x at hrs hcl HM2
          have HRS := Lib.hid hrs
          have HMM := Lib.hid HM2
          have hk0 : (0 : Int) ≤ (k : Int) := by omega
          have hk1 : (k : Int) < (9 : Int) := by omega
          clear hrs hri hx hrl hrm hlc' hmc' HM2 HM
          rcases Nat.lt_or_ge mo x with hmx | hmx
          case' inl =>
            have hmi : (mo : Int) < (x : Int) := by omega
            have HR2 := Lib.hid (HMM.out x (Nat.le_of_lt hmx) (Nat.le_refl _))
            have hmi2 : ((x : Int) < (mo : Int)) = False := by simp; omega
          case' inr =>
            have hmi : ((mo : Int) < (x : Int)) = False := by simp; omega
            have HR2 := Lib.hid (HMM.out mo (Nat.le_refl _) hmx)
          all_goals
            clear HMM hmx
            go_wp2_with fail
            refine HRS.out.mono ?_
            rintro e w8 ⟨V8, c8, rfl, -, hb8⟩
            have hw8 := hwr.trans (hb8.mono hwz)
            clear hb8 HRS hwr
            go_wp2
            go_roundw
            case rel => exact ⟨k + 1, _, by omega, by go_num, rfl, by omega, HR2, hw8⟩
            case measure => simp [intOf]; omega
        · obtain rfl : k = 9 := by omega
          have HMO : Hid (∀ r ∈ R.map says, cntN (2 * L) r ≤ mo) := fun r hr => by
            obtain ⟨r', hr', rfl⟩ := List.mem_map.1 hr
            obtain ⟨j, hj⟩ := List.mem_iff_getElem?.1 hr'
            exact HM.out j r' (by have := getElem?_lt hj; rw [HRL.out] at this; exact this) hj
          clear HM hkn
          have h2p : 2 ^ 9 ≤ 512 := pow_le9 (by omega)
          obtain ⟨q, hq⟩ : ∃ q : Nat, q = 2 ^ 9 := ⟨_, rfl⟩
          have hwp : IntKind.i64.wrap ((2 : Int) ^ 9) = (q : Int) := by
            have : ((2 : Int) ^ 9) = (q : Int) := by rw [hq]; simp
            rw [this, wrap_i64z _ (by omega) (by omega)]
          have hq5 : q ≤ 512 := by omega
          have HQ := Lib.hid hq
          have HS0 : Hid (Srch (2 * L) (R.map says) 0 (0, 9)) := by
            have := srch_zero (2 * L) (R.map says)
            rw [List.length_map, HRL.out] at this
            exact this
          have HST : Hid (∀ t al fe, Srch (2 * L) (R.map says) t (al, fe) → ∀ al' fe', srch (2 * L) (R.map says) (al, fe) t = (al', fe') → Srch (2 * L) (R.map says) (t + 1) (al', fe')) := fun t al fe h al' fe' e => by
            have := srch_step h
            rwa [e] at this
          have HSR : Hid (∀ t al fe, srch (2 * L) (R.map says) (al, fe) t = if al < saidN (2 * L) (R.map says) (bitsK t 9) ∨ saidN (2 * L) (R.map says) (bitsK t 9) = al ∧ (bitsK t 9).length < fe then (saidN (2 * L) (R.map says) (bitsK t 9), (bitsK t 9).length) else (al, fe)) := fun t al fe => by
            unfold srch bitsOf
            rw [List.length_map, HRL.out]
            rfl
          clear h2p hq
          obtain rfl : q = 512 := HQ.out
          go_wp2
          go_loopw [7, 10, 11, 12, 13, 14, 64] (fun va vf _ _ _ _ i wr => ∃ t al fe : Nat, t ≤ 512 ∧ i = .int .i64 t ∧ va = .int .i64 al ∧ vf = .int .i64 fe ∧ al ≤ 240 ∧ fe ≤ 9 ∧ Hid (Srch (2 * L) (R.map says) t (al, fe)) ∧ Below w.heap.size w wr) (fun _ _ _ _ _ _ i _ => 512 - (intOf i).toNat)
          case atStart => exact ⟨0, 0, 9, by omega, rfl, rfl, rfl, by omega, by omega, HS0, hwr⟩
          case round =>
            clear HS0 hwr hwz
            rename World => ws
            obtain ⟨t, al, fe, ht, rfl, rfl, rfl, hal, hfe, HSS, hwr⟩ := hrel
            have hwz := hwr.size
            by_cases htq : t < 512
            · have htq' : (t : Int) < (512 : Int) := by omega
              go_wp2
              go_loopw [12, 13, 69] (fun vm _ i wi => ∃ (k : Nat) (out : List Nat) (V : Option Addr) (co : Nat), k ≤ 9 ∧ i = .int .i64 k ∧ vm = .slice V out.length co ∧ Hid (out = bitsK t k) ∧ out.length ≤ 9 ∧ Hid (wi.ownsRow w.heap.size 3 1 (.slice V out.length co) out.length (ints (natI out))) ∧ Below w.heap.size w wi) (fun _ _ i _ => 9 - (intOf i).toNat)
              case atStart => exact ⟨0, [], none, 0, by omega, rfl, rfl, rfl, by simp, World.ownsRow_nil _ _ _ _, hwr⟩
              case round =>
                clear hwr hwz
                obtain ⟨k, out, V, co, hk, rfl, rfl, HO, hol, HW, hwr⟩ := hrel
                have hwz := hwr.size
                by_cases hkm : k < 9
                · have hkm' : (k : Int) < (9 : Int) := by omega
                  have hba := bit_at t k
                  have hbs := bitsK_succ t k
                  rcases Nat.mod_two_eq_zero_or_one (t / 2 ^ k) with hb | hb
                  · rw [hb] at hba hbs
                    have HO2 : Hid (out = bitsK t (k + 1)) := by show _ = _; rw [hbs, ← HO.out]; simp
                    have hba' : bits .and .i64 ((t : Int) / 2 ^ k) 1 = 0 := hba
                    clear hba hbs hb
                    go_wp2
                    go_roundw
                    case rel => exact ⟨k + 1, out, V, co, by omega, by go_num, rfl, HO2, hol, HW, hwr⟩
                    case measure => simp [intOf]; omega
                  · rw [hb] at hba hbs
                    have HO2 : Hid (out ++ [k] = bitsK t (k + 1)) := by show _ = _; rw [hbs, ← HO.out]; simp
                    have hol2 : (out ++ [k]).length ≤ 9 := by
                      have := bitsK_len t (k + 1)
                      rw [HO2.out]
                      omega
                    have hba' : bits .and .i64 ((t : Int) / 2 ^ k) 1 = 1 := hba
                    clear hba hbs hb
                    go_wp2_with (at_builtin; refine wpList_append_own _ rfl _ _ _ rfl w.heap.size 3 i0 _ 1 8 Try.underlying63 hi0 hz0 hz1 hz2 rfl (by decide) _ _ _ rfl (HW.out.alloc _) ⟨wr.heap.size, 0, none⟩ 1 1 [.int .i64 k] rfl rfl (cells_newZ wr 3 [.int .i64 k]) (by simp [Value.oneCell']) (by unfold maxLen; omega) (by omega) (by simp; omega) ?_; intro v' w8 hown8 hgr8 _; obtain ⟨V8, c8, rfl⟩ := own_form hown8)
                    have hw8 := below_app (hwr.alloc hwz _) (HW.out.alloc _) hgr8 (by simp; omega) (Nat.le_refl _)
                    go_roundw
                    case rel => exact ⟨k + 1, out ++ [k], V8, c8, by omega, by go_num, by rw [List.length_append]; rfl, HO2, hol2, by rw [List.length_append, natI_snoc]; exact hown8, hw8⟩
                    case measure => simp [intOf]; omega
                · obtain rfl : k = 9 := by omega
                  have hsa := HSD.out wr hwr out V co (Reads.of_own HW.out) (fun i hi => by rw [HO.out] at hi; exact bitsK_lt hi) (by omega)
                  have hsr := HSR.out t al fe
                  have hn240 := HN.out out
                  rw [← HO.out] at hsr
                  generalize saidN (2 * L) (R.map says) out = x at hsa hsr hn240
                  have HST2 : ∀ al' fe', srch (2 * L) (R.map says) (al, fe) t = (al', fe') → Srch (2 * L) (R.map says) (t + 1) (al', fe') := fun al' fe' e => HST.out t al fe HSS.out al' fe' e
                  have HT2 := Lib.hid HST2
                  have HSA := Lib.hid hsa
                  clear hsa HST2 hkm HO HW
                  rcases (by omega : al < x ∨ x < al ∨ (x = al ∧ out.length < fe) ∨ (x = al ∧ fe ≤ out.length)) with hc | hc | hc | hc
                  · rw [if_pos (.inl hc)] at hsr
                    have HF := Lib.hid (HT2.out _ _ hsr)
                    have q1 : (al : Int) < (x : Int) := by omega
                    clear hc hsr HT2
                    go_wp2_with fail
                    refine HSA.out.mono ?_
                    rintro e w9 ⟨rfl, hb9⟩
                    have hw9 := hwr.trans (hb9.mono hwz)
                    clear hb9 HSA hwr
                    go_wp2
                    go_roundw
                    case rel => exact ⟨t + 1, _, _, by omega, by go_num, rfl, rfl, by omega, by omega, HF, hw9⟩
                    case measure => simp [intOf]; omega
                  · rw [if_neg (by omega)] at hsr
                    have HF := Lib.hid (HT2.out _ _ hsr)
                    have q1 : ((al : Int) < (x : Int)) = False := by simp; omega
                    have q2 : ((x : Int) == (al : Int)) = false := by rw [beq_eq_false_iff_ne]; omega
                    clear hc hsr HT2
                    go_wp2_with fail
                    refine HSA.out.mono ?_
                    rintro e w9 ⟨rfl, hb9⟩
                    have hw9 := hwr.trans (hb9.mono hwz)
                    clear hb9 HSA hwr
                    go_wp2
                    go_roundw
                    case rel => exact ⟨t + 1, _, _, by omega, by go_num, rfl, rfl, by omega, by omega, HF, hw9⟩
                    case measure => simp [intOf]; omega
                  · rw [if_pos (.inr hc)] at hsr
                    have HF := Lib.hid (HT2.out _ _ hsr)
                    have q1 : ((al : Int) < (x : Int)) = False := by simp; omega
                    have q2 : ((x : Int) == (al : Int)) = true := by rw [beq_iff_eq]; omega
                    have q3 : (out.length : Int) < (fe : Int) := by omega
                    clear hc hsr HT2
                    go_wp2_with fail
                    refine HSA.out.mono ?_
                    rintro e w9 ⟨rfl, hb9⟩
                    have hw9 := hwr.trans (hb9.mono hwz)
                    clear hb9 HSA hwr
                    go_wp2
                    go_roundw
                    case rel => exact ⟨t + 1, _, _, by omega, by go_num, rfl, rfl, by omega, by omega, HF, hw9⟩
                    case measure => simp [intOf]; omega
                  · rw [if_neg (by omega)] at hsr
                    have HF := Lib.hid (HT2.out _ _ hsr)
                    have q1 : ((al : Int) < (x : Int)) = False := by simp; omega
                    have q2 : ((x : Int) == (al : Int)) = true := by rw [beq_iff_eq]; omega
                    have q3 : ((out.length : Int) < (fe : Int)) = False := by simp; omega
                    clear hc hsr HT2
                    go_wp2_with fail
                    refine HSA.out.mono ?_
                    rintro e w9 ⟨rfl, hb9⟩
                    have hw9 := hwr.trans (hb9.mono hwz)
                    clear hb9 HSA hwr
                    go_wp2
                    go_roundw
                    case rel => exact ⟨t + 1, _, _, by omega, by go_num, rfl, rfl, by omega, by omega, HF, hw9⟩
                    case measure => simp [intOf]; omega
            · have HS9 : Hid (Srch (2 * L) (R.map says) (2 ^ (R.map says).length) (al, fe)) := by
                have : t = 2 ^ (R.map says).length := by
                  rw [List.length_map, HRL.out]
                  omega
                rw [← this]
                exact HSS.out
              obtain ⟨⟨m, hm1, hm2⟩, hfew⟩ := srch_end HS9.out
              have hbd := greedy_bound shr_anti shr_share HP.out hm1 HMO.out
              rw [hm2] at hbd
              have hfl := hfew l (fun i hi => by rw [List.length_map, HRL.out]; exact HIL.out i hi) HGA.out
              have hmoq : mo ≤ 240 := hmo
              have HBD := Lib.hid hbd
              have htq' : ((t : Int) < (512 : Int)) = False := by simp; omega
              clear hm1 hm2 hfew hbd HS9 HST HSR HSS HSD HMO HP HIL HGA HN HA htq
              go_wp2
              go_loopw [15, 16] (fun vb vi wr => ∃ i bo : Nat, 1 ≤ i ∧ i ≤ mo + 1 ∧ vi = .int .i64 i ∧ vb = .int .i64 bo ∧ Hid (bo = fe * sumC shr (i - 1)) ∧ bo ≤ (i - 1) * 9000000 ∧ wr = ws) (fun _ vi _ => mo + 1 - (intOf vi).toNat)
              case atStart => exact ⟨1, 0, by omega, by omega, rfl, rfl, rfl, by omega, rfl⟩
              case round =>
                obtain ⟨i, bo, hi1, him, rfl, rfl, HB, hbo, rfl⟩ := hrel
                by_cases hio : i ≤ mo
                · have hq := shr_quo i hi1
                  have hsl := shr_le i hi1
                  have HB2 : Hid (bo + fe * shr i = fe * sumC shr (i + 1 - 1)) := by
                    show _ = _
                    rw [HB.out, ← Nat.mul_add]
                    obtain ⟨j, rfl⟩ : ∃ j, i = j + 1 := ⟨i - 1, by omega⟩
                    rfl
                  have hy : fe * shr i ≤ 9000000 := by
                    have := Nat.mul_le_mul hfe hsl
                    omega
                  have hyz : ((fe : Int) * ((shr i : Nat) : Int)) = ((fe * shr i : Nat) : Int) := by rw [Int.natCast_mul]
                  generalize fe * shr i = y at HB2 hy hyz
                  generalize shr i = x at hq hyz hsl
                  have hwy : IntKind.i64.wrap ((fe : Int) * (x : Int)) = (y : Int) := by rw [hyz, wrap_i64z _ (by omega) (by omega)]
                  have hw1 : IntKind.i64.wrap ((1000000 : Int) + (i : Int)) = (1000000 : Int) + (i : Int) := wrap_i64z _ (by omega) (by omega)
                  have hw2 : IntKind.i64.wrap ((1000000 : Int) + (i : Int) - 1) = (1000000 : Int) + (i : Int) - 1 := wrap_i64z _ (by omega) (by omega)
                  have hw3 : IntKind.i64.wrap (x : Int) = (x : Int) := wrap_i64z _ (by omega) (by omega)
                  have hne : ((i : Int) == 0) = false := by rw [beq_eq_false_iff_ne]; omega
                  have hcmp : (i : Int) ≤ (mo : Int) := by omega
                  have hbo2 : bo + y ≤ (i + 1 - 1) * 9000000 := by omega
                  clear hyz HB
                  go_wp2
                  exact ⟨⟨i + 1, bo + y, by omega, by omega, by go_num, by go_num, HB2, hbo2, trivial⟩, by simp [intOf]; omega⟩
                · obtain rfl : i = mo + 1 := by omega
                  have hcmp : ((mo : Int) + 1 ≤ (mo : Int)) = False := by simp; omega
                  have hle9 : (l.length : Int) * 1000000 ≤ (bo : Int) := by
                    have h1 := HBD.out
                    have h2 : bo = fe * sumC shr mo := HB.out
                    rw [← h2] at h1
                    omega
                  have hge9 : (fe : Int) ≤ (l.length : Int) := by omega
                  clear HB HBD
                  go_wp2
                  go_ret
                  exact ⟨rfl, hwr⟩
    · obtain rfl := hno h0
      have h0' : (chkR R != 0) = true := by rw [bne_iff_ne]; exact h0
      generalize chkR R = x at h0' ⊢
      clear h0 hno hyes
      go_wp2
      go_ret
      exact ⟨rfl, hw7⟩

  · have hmn : ((9 : Int) < (rows.length : Int)) = False := by simp; omega
    have hRL : R.length = rows.length := by omega
    go_enter Try.func9, Try.ntmps9
    go_wp2_with fail
    have k0 : Blk ((w.alloc (.cells #[.int .i64 3] 3)).alloc (.cells #[.slice (some ⟨w.heap.size, 0, none⟩) 1 1] 63)) w.heap.size 3 #[.int .i64 3] := (Blk.new w _ _).alloc _
    have k1 : Blk ((w.alloc (.cells #[.int .i64 3] 3)).alloc (.cells #[.slice (some ⟨w.heap.size, 0, none⟩) 1 1] 63)) (w.heap.size + 1) 63 #[.slice (some ⟨w.heap.size, 0, none⟩) 1 1] := blk_at (by simp)
    have hw4 : Below w.heap.size w ((w.alloc (.cells #[.int .i64 3] 3)).alloc (.cells #[.slice (some ⟨w.heap.size, 0, none⟩) 1 1] 63)) := (by repeat (first | exact Below.refl _ _ | assumption | refine Below.drew ?_ | refine below_drewN ?_ _ | refine Below.alloc ?_ (by first | omega | (simp; omega) | simp) _ | refine Below.setCell ?_ (by first | omega | (simp; omega) | simp) _))
    have h1 := H1.out _ _ _ k0 k1
    generalize ((w.alloc (.cells #[.int .i64 3] 3)).alloc (.cells #[.slice (some ⟨w.heap.size, 0, none⟩) 1 1] 63)) = w4 at h1 hw4 ⊢
    generalize w.heap.size + 1 = b1 at h1 ⊢
    clear k0 k1 H1
    refine h1.mono ?_
    clear h1
    rintro e w5 ⟨V5, c5, rfl, hb5⟩
    have hw5 := hw4.trans (hb5.mono hw4.size)
    clear hb5 hw4
    rw [hRL] at HPK
    go_wp2_with fail
    refine (HPK.out _ hw5).mono ?_
    rintro e w7 ⟨V7, c7, l, rfl, hr7, hb7, hl7, hlc, hcm, hVc, hno, hyes⟩
    have hw7 := hw5.trans (hb7.mono hw5.size)
    clear hb7 hw5 HPK hr7
    by_cases h0 : chkR R = 0
    · obtain ⟨hP, hD⟩ := hyes h0
      obtain ⟨h40, hL, hall⟩ := chkR_all h0
      have HA := Lib.hid hall
      have hsd := fun (W : World) (hW : Below w.heap.size w W) (m : List Nat) (V : Option Addr) (cl : Nat) (h : Reads W W.heap.size 1 V m.length (ints (natI m))) (hi : ∀ i ∈ m, i < R.length) (hm : m.length ≤ 1000) => said_any R A c m V cl w.heap.size W hW.size (HR.out.on hW) h0 h hi hm
      have hil : ∀ i ∈ l, i < R.length := fun i hi => by
        obtain ⟨k, hk⟩ := List.mem_iff_getElem?.1 hi
        have := greedy_lt hP hk
        rwa [List.length_map] at this
      have hga := greedy_all hD
      rw [hRL] at hsd hil
      rw [h0]
      generalize rowL R = L at hP hD hsd hL HA hga
      have hN : ∀ m, saidN (2 * L) (R.map says) m ≤ 240 := fun m => Nat.le_trans (cntN_le _ _) (by omega)
      have HSD := Lib.hid hsd
      have HP := Lib.hid hP
      have HIL := Lib.hid hil
      have HGA := Lib.hid hga
      have HN := Lib.hid hN
      have HRL := Lib.hid hRL
      have hz7 := hw7.size
      have hRLn : R.length ≤ 9 := hR9
      clear hsd hP hD hil hga hN hno hyes h0 hall hRc hRl
      go_wp2
      go_loopw [8, 9, 47] (fun vm _ i wr => ∃ k mo : Nat, k ≤ rows.length ∧ i = .int .i64 k ∧ vm = .int .i64 mo ∧ mo ≤ 240 ∧ Hid (∀ (j : Nat) (r : List Int), j < k → R[j]? = some r → cntN (2 * L) (says r) ≤ mo) ∧ Below w.heap.size w wr) (fun _ _ i _ => rows.length - (intOf i).toNat)
      case atStart => exact ⟨0, 0, by omega, rfl, rfl, by omega, fun j r h => by omega, hw7⟩
      case round =>
        obtain ⟨k, mo, hk, rfl, rfl, hmo, HM, hwr⟩ := hrel
        have hwz := hwr.size
        by_cases hkn : k < rows.length
        · have hx := List.getElem?_eq_getElem (l := R) (i := k) (by omega)
          generalize R[k]'(by omega) = r at hx
          obtain ⟨ad, Ai, ci, rfl, hab, hci, hlc', hmc', hri⟩ := (HR.out.on hwr).row k r hx
          obtain ⟨hrl, hrm⟩ := HA.out r (List.mem_of_getElem? hx)
          rw [hrl] at hci hri
          have hrs := rsaid_any Ai L ci r w.heap.size wr hri hwz hL hrm
          rw [saidK_len] at hrs
          have hcl := cntN_le (2 * L) (says r)
          have HX := Lib.hid hx
          have HM2 : ∀ mo', mo ≤ mo' → cntN (2 * L) (says r) ≤ mo' → ∀ (j : Nat) (r' : List Int), j < k + 1 → R[j]? = some r' → cntN (2 * L) (says r') ≤ mo' := fun mo' h1 h2 j r' hj hr' => by
            by_cases hjk : j = k
            · subst hjk
              rw [HX.out] at hr'
              injection hr' with hr'
              subst hr'
              exact h2
            · have := HM.out j r' (by omega) hr'
              omega
          generalize cntN (2 * L) (says r) = x at hrs hcl HM2
          have HRS := Lib.hid hrs
          have HMM := Lib.hid HM2
          have hk0 : (0 : Int) ≤ (k : Int) := by omega
          have hk1 : (k : Int) < (rows.length : Int) := by omega
          clear hrs hri hx hrl hrm hlc' hmc' HM2 HM
          rcases Nat.lt_or_ge mo x with hmx | hmx
          case' inl =>
            have hmi : (mo : Int) < (x : Int) := by omega
            have HR2 := Lib.hid (HMM.out x (Nat.le_of_lt hmx) (Nat.le_refl _))
            have hmi2 : ((x : Int) < (mo : Int)) = False := by simp; omega
          case' inr =>
            have hmi : ((mo : Int) < (x : Int)) = False := by simp; omega
            have HR2 := Lib.hid (HMM.out mo (Nat.le_refl _) hmx)
          all_goals
            clear HMM hmx
            go_wp2_with fail
            refine HRS.out.mono ?_
            rintro e w8 ⟨V8, c8, rfl, -, hb8⟩
            have hw8 := hwr.trans (hb8.mono hwz)
            clear hb8 HRS hwr
            go_wp2
            go_roundw
            case rel => exact ⟨k + 1, _, by omega, by go_num, rfl, by omega, HR2, hw8⟩
            case measure => simp [intOf]; omega
        · obtain rfl : k = rows.length := by omega
          have HMO : Hid (∀ r ∈ R.map says, cntN (2 * L) r ≤ mo) := fun r hr => by
            obtain ⟨r', hr', rfl⟩ := List.mem_map.1 hr
            obtain ⟨j, hj⟩ := List.mem_iff_getElem?.1 hr'
            exact HM.out j r' (by have := getElem?_lt hj; rw [HRL.out] at this; exact this) hj
          clear HM hkn
          have h2p : 2 ^ rows.length ≤ 512 := pow_le9 (by omega)
          obtain ⟨q, hq⟩ : ∃ q : Nat, q = 2 ^ rows.length := ⟨_, rfl⟩
          have hwp : IntKind.i64.wrap ((2 : Int) ^ rows.length) = (q : Int) := by
            have : ((2 : Int) ^ rows.length) = (q : Int) := by rw [hq]; simp
            rw [this, wrap_i64z _ (by omega) (by omega)]
          have hq5 : q ≤ 512 := by omega
          have HQ := Lib.hid hq
          have HS0 : Hid (Srch (2 * L) (R.map says) 0 (0, rows.length)) := by
            have := srch_zero (2 * L) (R.map says)
            rw [List.length_map, HRL.out] at this
            exact this
          have HST : Hid (∀ t al fe, Srch (2 * L) (R.map says) t (al, fe) → ∀ al' fe', srch (2 * L) (R.map says) (al, fe) t = (al', fe') → Srch (2 * L) (R.map says) (t + 1) (al', fe')) := fun t al fe h al' fe' e => by
            have := srch_step h
            rwa [e] at this
          have HSR : Hid (∀ t al fe, srch (2 * L) (R.map says) (al, fe) t = if al < saidN (2 * L) (R.map says) (bitsK t rows.length) ∨ saidN (2 * L) (R.map says) (bitsK t rows.length) = al ∧ (bitsK t rows.length).length < fe then (saidN (2 * L) (R.map says) (bitsK t rows.length), (bitsK t rows.length).length) else (al, fe)) := fun t al fe => by
            unfold srch bitsOf
            rw [List.length_map, HRL.out]
            rfl
          clear h2p hq
          go_wp2
          go_loopw [7, 10, 11, 12, 13, 14, 64] (fun va vf _ _ _ _ i wr => ∃ t al fe : Nat, t ≤ q ∧ i = .int .i64 t ∧ va = .int .i64 al ∧ vf = .int .i64 fe ∧ al ≤ 240 ∧ fe ≤ 9 ∧ Hid (Srch (2 * L) (R.map says) t (al, fe)) ∧ Below w.heap.size w wr) (fun _ _ _ _ _ _ i _ => q - (intOf i).toNat)
          case atStart => exact ⟨0, 0, rows.length, by omega, rfl, rfl, rfl, by omega, by omega, HS0, hwr⟩
          case round =>
            clear HS0 hwr hwz
            rename World => ws
            obtain ⟨t, al, fe, ht, rfl, rfl, rfl, hal, hfe, HSS, hwr⟩ := hrel
            have hwz := hwr.size
            by_cases htq : t < q
            · have htq' : (t : Int) < (q : Int) := by omega
              go_wp2
              go_loopw [12, 13, 69] (fun vm _ i wi => ∃ (k : Nat) (out : List Nat) (V : Option Addr) (co : Nat), k ≤ rows.length ∧ i = .int .i64 k ∧ vm = .slice V out.length co ∧ Hid (out = bitsK t k) ∧ out.length ≤ 9 ∧ Hid (wi.ownsRow w.heap.size 3 1 (.slice V out.length co) out.length (ints (natI out))) ∧ Below w.heap.size w wi) (fun _ _ i _ => rows.length - (intOf i).toNat)
              case atStart => exact ⟨0, [], none, 0, by omega, rfl, rfl, rfl, by simp, World.ownsRow_nil _ _ _ _, hwr⟩
              case round =>
                clear hwr hwz
                obtain ⟨k, out, V, co, hk, rfl, rfl, HO, hol, HW, hwr⟩ := hrel
                have hwz := hwr.size
                by_cases hkm : k < rows.length
                · have hkm' : (k : Int) < (rows.length : Int) := by omega
                  have hba := bit_at t k
                  have hbs := bitsK_succ t k
                  rcases Nat.mod_two_eq_zero_or_one (t / 2 ^ k) with hb | hb
                  · rw [hb] at hba hbs
                    have HO2 : Hid (out = bitsK t (k + 1)) := by show _ = _; rw [hbs, ← HO.out]; simp
                    have hba' : bits .and .i64 ((t : Int) / 2 ^ k) 1 = 0 := hba
                    clear hba hbs hb
                    go_wp2
                    go_roundw
                    case rel => exact ⟨k + 1, out, V, co, by omega, by go_num, rfl, HO2, hol, HW, hwr⟩
                    case measure => simp [intOf]; omega
                  · rw [hb] at hba hbs
                    have HO2 : Hid (out ++ [k] = bitsK t (k + 1)) := by show _ = _; rw [hbs, ← HO.out]; simp
                    have hol2 : (out ++ [k]).length ≤ 9 := by
                      have := bitsK_len t (k + 1)
                      rw [HO2.out]
                      omega
                    have hba' : bits .and .i64 ((t : Int) / 2 ^ k) 1 = 1 := hba
                    clear hba hbs hb
                    go_wp2_with (at_builtin; refine wpList_append_own _ rfl _ _ _ rfl w.heap.size 3 i0 _ 1 8 Try.underlying63 hi0 hz0 hz1 hz2 rfl (by decide) _ _ _ rfl (HW.out.alloc _) ⟨wr.heap.size, 0, none⟩ 1 1 [.int .i64 k] rfl rfl (cells_newZ wr 3 [.int .i64 k]) (by simp [Value.oneCell']) (by unfold maxLen; omega) (by omega) (by simp; omega) ?_; intro v' w8 hown8 hgr8 _; obtain ⟨V8, c8, rfl⟩ := own_form hown8)
                    have hw8 := below_app (hwr.alloc hwz _) (HW.out.alloc _) hgr8 (by simp; omega) (Nat.le_refl _)
                    go_roundw
                    case rel => exact ⟨k + 1, out ++ [k], V8, c8, by omega, by go_num, by rw [List.length_append]; rfl, HO2, hol2, by rw [List.length_append, natI_snoc]; exact hown8, hw8⟩
                    case measure => simp [intOf]; omega
                · obtain rfl : k = rows.length := by omega
                  have hsa := HSD.out wr hwr out V co (Reads.of_own HW.out) (fun i hi => by rw [HO.out] at hi; exact bitsK_lt hi) (by omega)
                  have hsr := HSR.out t al fe
                  have hn240 := HN.out out
                  rw [← HO.out] at hsr
                  generalize saidN (2 * L) (R.map says) out = x at hsa hsr hn240
                  have HST2 : ∀ al' fe', srch (2 * L) (R.map says) (al, fe) t = (al', fe') → Srch (2 * L) (R.map says) (t + 1) (al', fe') := fun al' fe' e => HST.out t al fe HSS.out al' fe' e
                  have HT2 := Lib.hid HST2
                  have HSA := Lib.hid hsa
                  clear hsa HST2 hkm HO HW
                  rcases (by omega : al < x ∨ x < al ∨ (x = al ∧ out.length < fe) ∨ (x = al ∧ fe ≤ out.length)) with hc | hc | hc | hc
                  · rw [if_pos (.inl hc)] at hsr
                    have HF := Lib.hid (HT2.out _ _ hsr)
                    have q1 : (al : Int) < (x : Int) := by omega
                    clear hc hsr HT2
                    go_wp2_with fail
                    refine HSA.out.mono ?_
                    rintro e w9 ⟨rfl, hb9⟩
                    have hw9 := hwr.trans (hb9.mono hwz)
                    clear hb9 HSA hwr
                    go_wp2
                    go_roundw
                    case rel => exact ⟨t + 1, _, _, by omega, by go_num, rfl, rfl, by omega, by omega, HF, hw9⟩
                    case measure => simp [intOf]; omega
                  · rw [if_neg (by omega)] at hsr
                    have HF := Lib.hid (HT2.out _ _ hsr)
                    have q1 : ((al : Int) < (x : Int)) = False := by simp; omega
                    have q2 : ((x : Int) == (al : Int)) = false := by rw [beq_eq_false_iff_ne]; omega
                    clear hc hsr HT2
                    go_wp2_with fail
                    refine HSA.out.mono ?_
                    rintro e w9 ⟨rfl, hb9⟩
                    have hw9 := hwr.trans (hb9.mono hwz)
                    clear hb9 HSA hwr
                    go_wp2
                    go_roundw
                    case rel => exact ⟨t + 1, _, _, by omega, by go_num, rfl, rfl, by omega, by omega, HF, hw9⟩
                    case measure => simp [intOf]; omega
                  · rw [if_pos (.inr hc)] at hsr
                    have HF := Lib.hid (HT2.out _ _ hsr)
                    have q1 : ((al : Int) < (x : Int)) = False := by simp; omega
                    have q2 : ((x : Int) == (al : Int)) = true := by rw [beq_iff_eq]; omega
                    have q3 : (out.length : Int) < (fe : Int) := by omega
                    clear hc hsr HT2
                    go_wp2_with fail
                    refine HSA.out.mono ?_
                    rintro e w9 ⟨rfl, hb9⟩
                    have hw9 := hwr.trans (hb9.mono hwz)
                    clear hb9 HSA hwr
                    go_wp2
                    go_roundw
                    case rel => exact ⟨t + 1, _, _, by omega, by go_num, rfl, rfl, by omega, by omega, HF, hw9⟩
                    case measure => simp [intOf]; omega
                  · rw [if_neg (by omega)] at hsr
                    have HF := Lib.hid (HT2.out _ _ hsr)
                    have q1 : ((al : Int) < (x : Int)) = False := by simp; omega
                    have q2 : ((x : Int) == (al : Int)) = true := by rw [beq_iff_eq]; omega
                    have q3 : ((out.length : Int) < (fe : Int)) = False := by simp; omega
                    clear hc hsr HT2
                    go_wp2_with fail
                    refine HSA.out.mono ?_
                    rintro e w9 ⟨rfl, hb9⟩
                    have hw9 := hwr.trans (hb9.mono hwz)
                    clear hb9 HSA hwr
                    go_wp2
                    go_roundw
                    case rel => exact ⟨t + 1, _, _, by omega, by go_num, rfl, rfl, by omega, by omega, HF, hw9⟩
                    case measure => simp [intOf]; omega
            · have HS9 : Hid (Srch (2 * L) (R.map says) (2 ^ (R.map says).length) (al, fe)) := by
                have : t = 2 ^ (R.map says).length := by
                  rw [List.length_map, HRL.out, ← HQ.out]
                  omega
                rw [← this]
                exact HSS.out
              obtain ⟨⟨m, hm1, hm2⟩, hfew⟩ := srch_end HS9.out
              have hbd := greedy_bound shr_anti shr_share HP.out hm1 HMO.out
              rw [hm2] at hbd
              have hfl := hfew l (fun i hi => by rw [List.length_map, HRL.out]; exact HIL.out i hi) HGA.out
              have hmoq : mo ≤ 240 := hmo
              have HBD := Lib.hid hbd
              have htq' : ((t : Int) < (q : Int)) = False := by simp; omega
              clear hm1 hm2 hfew hbd HS9 HST HSR HSS HSD HMO HP HIL HGA HN HA htq
              go_wp2
              go_loopw [15, 16] (fun vb vi wr => ∃ i bo : Nat, 1 ≤ i ∧ i ≤ mo + 1 ∧ vi = .int .i64 i ∧ vb = .int .i64 bo ∧ Hid (bo = fe * sumC shr (i - 1)) ∧ bo ≤ (i - 1) * 9000000 ∧ wr = ws) (fun _ vi _ => mo + 1 - (intOf vi).toNat)
              case atStart => exact ⟨1, 0, by omega, by omega, rfl, rfl, rfl, by omega, rfl⟩
              case round =>
                obtain ⟨i, bo, hi1, him, rfl, rfl, HB, hbo, rfl⟩ := hrel
                by_cases hio : i ≤ mo
                · have hq := shr_quo i hi1
                  have hsl := shr_le i hi1
                  have HB2 : Hid (bo + fe * shr i = fe * sumC shr (i + 1 - 1)) := by
                    show _ = _
                    rw [HB.out, ← Nat.mul_add]
                    obtain ⟨j, rfl⟩ : ∃ j, i = j + 1 := ⟨i - 1, by omega⟩
                    rfl
                  have hy : fe * shr i ≤ 9000000 := by
                    have := Nat.mul_le_mul hfe hsl
                    omega
                  have hyz : ((fe : Int) * ((shr i : Nat) : Int)) = ((fe * shr i : Nat) : Int) := by rw [Int.natCast_mul]
                  generalize fe * shr i = y at HB2 hy hyz
                  generalize shr i = x at hq hyz hsl
                  have hwy : IntKind.i64.wrap ((fe : Int) * (x : Int)) = (y : Int) := by rw [hyz, wrap_i64z _ (by omega) (by omega)]
                  have hw1 : IntKind.i64.wrap ((1000000 : Int) + (i : Int)) = (1000000 : Int) + (i : Int) := wrap_i64z _ (by omega) (by omega)
                  have hw2 : IntKind.i64.wrap ((1000000 : Int) + (i : Int) - 1) = (1000000 : Int) + (i : Int) - 1 := wrap_i64z _ (by omega) (by omega)
                  have hw3 : IntKind.i64.wrap (x : Int) = (x : Int) := wrap_i64z _ (by omega) (by omega)
                  have hne : ((i : Int) == 0) = false := by rw [beq_eq_false_iff_ne]; omega
                  have hcmp : (i : Int) ≤ (mo : Int) := by omega
                  have hbo2 : bo + y ≤ (i + 1 - 1) * 9000000 := by omega
                  clear hyz HB
                  go_wp2
                  exact ⟨⟨i + 1, bo + y, by omega, by omega, by go_num, by go_num, HB2, hbo2, trivial⟩, by simp [intOf]; omega⟩
                · obtain rfl : i = mo + 1 := by omega
                  have hcmp : ((mo : Int) + 1 ≤ (mo : Int)) = False := by simp; omega
                  have hle9 : (l.length : Int) * 1000000 ≤ (bo : Int) := by
                    have h1 := HBD.out
                    have h2 : bo = fe * sumC shr mo := HB.out
                    rw [← h2] at h1
                    omega
                  have hge9 : (fe : Int) ≤ (l.length : Int) := by omega
                  clear HB HBD
                  go_wp2
                  go_ret
                  exact ⟨rfl, hwr⟩
    · obtain rfl := hno h0
      have h0' : (chkR R != 0) = true := by rw [bne_iff_ne]; exact h0
      generalize chkR R = x at h0' ⊢
      clear h0 hno hyes
      go_wp2
      go_ret
      exact ⟨rfl, hw7⟩

end Go.Proofs.Ytphfckihdhmhpaa
