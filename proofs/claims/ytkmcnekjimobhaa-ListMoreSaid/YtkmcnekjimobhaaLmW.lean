/- The walk of the law ListMore. -/
import Derived.Test.YtkmcnekjimobhaaLsW
import Derived.Test.YtkmcnekjimobhaaLsH
import Derived.Test.YtkmcnekjimobhaaLsD
import Derived.Test.YtkmcnekjimobhaaLmO
import Derived.Test.YtkmcnekjimobhaaLmC
namespace Go.Proofs.Ytkmcnekjimobhaa
open Go.RowKit

/-! plain -/
/-- fewer signs, or fewer bytes -/
structure LmOk (a : ByteArray) (k : Nat) (b : ByteArray) (n : Nat) : Prop where
  al : AlphaOk b.data.toList
  three : b.size ≤ 3
  le : n ≤ k
  sub : ∀ c ∈ b.data.toList, c ∈ a.data.toList
theorem lm_sub {acc : ByteArray → Bool} {a b : ByteArray} {k n : Nat} (ha : AlphaOk a.data.toList) (h : LmOk a k b n) (hk : k ≤ 6) : ∀ s ∈ allL acc b.data.toList n, s ∈ allL acc a.data.toList k := fun s hs => by
  rw [mem_allL h.al (by have := h.le; omega)] at hs
  rw [mem_allL ha hk]
  exact ⟨⟨⟨ha, hs.1.1.2.1, fun c hc => h.sub c (hs.1.1.2.2 c hc)⟩, Nat.le_trans hs.1.2 h.le⟩, hs.2⟩
theorem lm_in {acc : ByteArray → Bool} {a b : ByteArray} {k n : Nat} (ha : AlphaOk a.data.toList) (h : LmOk a k b n) (hk : k ≤ 6) {s : ByteArray} (hs : s ∈ allL acc a.data.toList k) (hn : s.size ≤ n) (ho : ovN b.data.toList s.data.toList = 0) : s ∈ allL acc b.data.toList n := by
  rw [mem_allL ha hk] at hs
  rw [mem_allL h.al (by have := h.le; omega)]
  have hc : ∀ c ∈ s.data.toList, c ∈ b.data.toList := by
    unfold ovN at ho
    split at ho
    · assumption
    · cases ho
  exact ⟨⟨⟨h.al, hs.1.1.2.1, hc⟩, hn⟩, hs.2⟩
theorem lm_few : ∀ m < 4, ∀ k < 5, shN m (k + 1) ≤ 5000 := by decide
theorem LmOk.look {g : List Rl} {a b : ByteArray} {k n : Nat} (h : LmOk a k b n) (hw : (wellG g).2 = 0) (hk : k < 5) : LookOk g b n :=
  ⟨hw, h.al, n, rfl, by have := h.le; omega, lm_few _ (by have := h.three; omega) _ (by have := h.le; omega)⟩
def tl1 (a : ByteArray) : ByteArray := a.extract 1 a.size
theorem tl1_list (a : ByteArray) : (tl1 a).data.toList = a.data.toList.drop 1 := by
  unfold tl1
  have h : a.data.toList.length = a.size := size_list a
  simp only [ByteArray.data_extract, Array.toList_extract, List.extract_eq_take_drop]
  rw [List.take_of_length_le (by rw [List.length_drop]; omega)]
theorem lm_tail {a : ByteArray} {k : Nat} (ha : AlphaOk a.data.toList) (h2 : 2 ≤ a.size) (h3 : a.size ≤ 3) : LmOk a k (tl1 a) k := by
  have hl : a.data.toList.length = a.size := size_list a
  refine ⟨?_, ?_, Nat.le_refl _, ?_⟩
  · rw [tl1_list]
    refine ⟨fun e => ?_, by rw [List.length_drop]; omega, fun i h1 hi => ?_⟩
    · have := congrArg List.length e
      rw [List.length_drop] at this
      simp at this
      omega
    · rw [List.length_drop] at hi
      have := ha.2.2 (i + 1) (by omega) (by omega)
      unfold bt at this ⊢
      rw [List.getD_eq_getElem?_getD, List.getD_eq_getElem?_getD] at this ⊢
      rw [List.getElem?_drop, List.getElem?_drop]
      rw [show 1 + (i - 1) = i + 1 - 1 by omega, show 1 + i = i + 1 by omega]
      exact this
  · rw [← size_list, tl1_list, List.length_drop]
    omega
  · intro c hc
    rw [tl1_list] at hc
    exact List.mem_of_mem_drop hc
theorem lm_less {a : ByteArray} {k : Nat} (ha : AlphaOk a.data.toList) (h3 : a.size ≤ 3) : LmOk a k a (k - 1) := ⟨ha, h3, by omega, fun _ h => h⟩
theorem x_none : allL (accG xG) [120] 0 = [] := by
  refine List.eq_nil_iff_forall_not_mem.2 fun u hu => ?_
  rw [mem_allL x_ok (by omega)] at hu
  have hs : u.size = 0 := by omega
  have hu0 : u = ⟨#[]⟩ := by
    obtain ⟨⟨l⟩⟩ := u
    have : l.length = 0 := hs
    rw [List.eq_nil_of_length_eq_zero this]
  have h0 : accG xG ⟨#[]⟩ = false := x_acc _ (by decide) (o := none) (by decide +kernel)
  rw [hu0, h0] at hu
  exact absurd hu.2 (by decide)
theorem x_lookM : LookOk xG ⟨#[120]⟩ 0 := ⟨x_well, x_ok, 0, rfl, by decide, by decide +kernel⟩
theorem slice_from1 (s : ByteArray) (k : IntKind) (h : 1 ≤ s.size) (w : World) :
    (Instr.slice 9 (.string s) (some (.int k 1)) none none).run Try.prog w = .ok (.string (tl1 s)) w := by
  have hu := Try.underlying9
  simp [Instr.slice, run_underlying hu, Instr.sliceBounds, go_sem, tl1]
  intro h'
  omega

set_option maxRecDepth 100000 in
set_option maxHeartbeats 8000000 in
theorem walk_ListMore {g : List Rl} {A : Option Addr} {cp : Nat} {row : Nat → List Value} (a : ByteArray) (n : Int) (w : World) (hg : GrIs w w.heap.size g A cp row) (hwf : ∀ r ∈ g, WfE r.2) :
    Calls Try.prog 10 #[.agg #[.slice A g.length cp], .string a, .int .i64 n] w fun e w' => e = .returned (.bool true) ∧ Below w.heap.size w w' := by
  have hmf : ∀ (fn : Fn) (first cap : Array Value) (w : World), (Instr.makeFunc fn first cap).run Try.prog w = .ok (.func fn first cap) w := fun _ _ _ _ => rfl
  have hlit := lit_b ⟨#[120]⟩
  have hone := fun W => one_b (litE ⟨#[120]⟩) _ W (litE_is W ⟨#[120]⟩ (by decide))
  have hwh := fun W (hW : Below w.heap.size w W) (a' : ByteArray) (k : Nat) (ha : a'.size ≤ 140737488351232) (hk : k ≤ 6) => whole_any (hg.grow hW) hwf a' k ha hk
  have hsm := fun W => small_any a n W
  have hk5 : wiN n 5 < 5 := wiN_lt n (by decide)
  have hsz := smA_size a
  obtain ⟨a', ha'⟩ : ∃ a', smA a = a' := ⟨_, rfl⟩
  obtain ⟨k, hk⟩ : ∃ k, wiN n 5 = k := ⟨_, rfl⟩
  rw [ha', hk] at hsm
  rw [hk] at hk5
  rw [ha'] at hsz
  unfold exCells at hlit hone
  have HL := Lib.hid hlit
  have HO := Lib.hid hone
  have HWH := Lib.hid hwh
  have HSM := Lib.hid hsm
  clear hlit hone hwh hsm hg hwf ha' hk
  go_enter Try.func10, Try.ntmps10
  go_wp2_with fail
  refine (HL.out _).mono ?_
  rintro e w1 ⟨rfl, hb1⟩
  have hgx : Blk w1 w.heap.size 24 #[.slice A g.length cp] := (blk_at rfl).below hb1 (by first | omega | (simp; omega) | simp)
  have hw1 : Below w.heap.size w w1 := ((Below.refl _ w).alloc (Nat.le_refl _) _).trans (hb1.mono (by first | omega | (simp; omega) | simp))
  clear hb1
  go_wp2_with fail
  refine (HO.out _).mono ?_
  rintro e w2 ⟨b1, rfl, hG1, hb2⟩
  replace hgx := hgx.below hb2 hgx.lt
  replace hw1 := hw1.trans (hb2.mono hw1.size)
  have hx := whole_any hG1 (fun r hr => by
    simp only [List.mem_singleton] at hr
    subst hr
    exact .mk _ _ _ _ _ _ _ (by unfold I64; omega) (by unfold U64; omega) (by unfold U64; omega) (by unfold U64; omega) (by unfold U64; omega) (fun e h => by cases h)) ⟨#[120]⟩ 0 (by decide) (by omega)
  have HX := Lib.hid hx
  clear hb2 hx hG1
  go_wp2_with fail
  refine HX.out.mono ?_
  rintro e w3 ⟨hb3, hq⟩
  replace hgx := hgx.below hb3 hgx.lt
  replace hw1 := hw1.trans (hb3.mono hw1.size)
  clear hb3 HX
  rcases hq with ⟨hbad, _⟩ | ⟨_, V0, c0, l0, hl0, rfl, _⟩
  · exact absurd x_lookM hbad
  have hl00 : l0 = [] := hl0.trans x_none
  subst hl00
  rw [List.length_nil]
  clear hl0
  go_wp2_with fail
  refine (HSM.out _).mono ?_
  rintro e w4 ⟨rfl, hb4⟩
  replace hgx := hgx.below hb4 hgx.lt
  replace hw1 := hw1.trans (hb4.mono hw1.size)
  clear hb4
  have g0 : w4.cell? ⟨w.heap.size, 0, none⟩ = some (.slice A g.length cp) := hgx.cell 0
  by_cases ha2 : a'.size < 2
  · have h2i : (a'.size : Int) < 2 := by omega
    go_wp2
    go_ret
    exact ⟨rfl, hw1⟩
  have h2i : ¬ (a'.size : Int) < 2 := by omega
  by_cases hk1 : k < 1
  · have h1i : (k : Int) < 1 := by omega
    go_wp2
    go_ret
    exact ⟨rfl, hw1⟩
  have h1i : ¬ (k : Int) < 1 := by omega
  go_wp2_with fail
  refine (HWH.out _ hw1 a' k (by omega) (by omega)).mono ?_
  rintro e w5 ⟨hb5, hq⟩
  replace hgx := hgx.below hb5 hgx.lt
  replace hw1 := hw1.trans (hb5.mono hw1.size)
  have hz5 := hw1.size
  have hgl5 := hgx.lt
  clear hb5 g0
  rcases hq with ⟨_, x, hx0, _, rfl⟩ | ⟨hok, V, c, L, hL, rfl, hown⟩
  · have hxb : (x != 0) = true := by rw [bne_iff_ne]; exact hx0
    clear hx0
    go_wp2
    go_ret
    exact ⟨by simp, (by repeat (first | exact Below.refl _ _ | assumption | refine Below.drew ?_ | refine below_drewN ?_ _ | refine Below.alloc ?_ (by first | omega | (simp; omega) | simp) _ | refine Below.setCell ?_ (by first | omega | (simp; omega) | simp) _))⟩
  have hln : L.length ≤ 5000 := by
    rw [hL]
    unfold allL
    have h1 := List.length_filter_le (accG g) (textsL a'.data.toList [] k)
    have h2 : (textsL a'.data.toList [] k).length ≤ 5000 := by
      rw [textsL_len, rank_zero]
      have h3 : a'.data.toList.length = a'.size := size_list a'
      rw [h3]
      have := lm_few a'.size (by omega) k hk5
      omega
    omega
  have hlen4 : ∀ s ∈ L, s.size ≤ k := fun s hs => by
    rw [hL, mem_allL hok.2.1 (by omega)] at hs
    exact hs.1.2
  have hcase : ∀ (b : ByteArray) (m : Nat), LmOk a' k b m → (∀ s ∈ allL (accG g) b.data.toList m, s ∈ L) ∧ (∀ s ∈ L, s.size ≤ m → ovN b.data.toList s.data.toList = 0 → s ∈ allL (accG g) b.data.toList m) := fun b m h => by
    rw [hL]
    exact ⟨lm_sub hok.2.1 h (by omega), fun s hs hm ho => lm_in hok.2.1 h (by omega) hs hm ho⟩
  have HR := Lib.hid (Reads.of_own hown)
  have HLN := Lib.hid hln
  have HL4 := Lib.hid hlen4
  have HCA := Lib.hid hcase
  have HT1 := Lib.hid (lm_tail (k := k) hok.2.1 (by omega) hsz)
  have HT2 := Lib.hid (lm_less (k := k) hok.2.1 hsz)
  have HOK := Lib.hid hok.1
  have hs1 := slice_from1 a' .i64 (by omega)
  have hwk : IntKind.i64.wrap ((k : Int) - 1) = ((k - 1 : Nat) : Int) := by rw [show (k : Int) - 1 = ((k - 1 : Nat) : Int) by omega]; exact IntWalk.i64_in _ (by omega)
  have hln2 : (L.length : Int) ≤ 5000 := by omega
  clear hln hlen4 hcase hL hown hok
  go_wp2
  have hw0 : Below w.heap.size w ((w5.alloc (.cells #[.slice V L.length c] 79)).alloc (.cells #[.string (tl1 a'), .int .i64 k, .string a', .int .i64 ((k - 1 : Nat) : Int)] 82)) := (by repeat (first | exact Below.refl _ _ | assumption | refine Below.drew ?_ | refine below_drewN ?_ _ | refine Below.alloc ?_ (by first | omega | (simp; omega) | simp) _ | refine Below.setCell ?_ (by first | omega | (simp; omega) | simp) _))
  have hb50 : Below w5.heap.size w5 ((w5.alloc (.cells #[.slice V L.length c] 79)).alloc (.cells #[.string (tl1 a'), .int .i64 k, .string a', .int .i64 ((k - 1 : Nat) : Int)] 82)) := (by repeat (first | exact Below.refl _ _ | assumption | refine Below.drew ?_ | refine below_drewN ?_ _ | refine Below.alloc ?_ (by first | omega | (simp; omega) | simp) _ | refine Below.setCell ?_ (by first | omega | (simp; omega) | simp) _))
  have hlb : Blk ((w5.alloc (.cells #[.slice V L.length c] 79)).alloc (.cells #[.string (tl1 a'), .int .i64 k, .string a', .int .i64 ((k - 1 : Nat) : Int)] 82)) w5.heap.size 79 #[.slice V L.length c] := (blk_at rfl).alloc _
  have htb : Blk ((w5.alloc (.cells #[.slice V L.length c] 79)).alloc (.cells #[.string (tl1 a'), .int .i64 k, .string a', .int .i64 ((k - 1 : Nat) : Int)] 82)) (w5.heap.size + 1) 82 #[.string (tl1 a'), .int .i64 k, .string a', .int .i64 ((k - 1 : Nat) : Int)] := blk_at (by simp)
  have hgx0 := (hgx.alloc (.cells #[.slice V L.length c] 79)).alloc (.cells #[.string (tl1 a'), .int .i64 k, .string a', .int .i64 ((k - 1 : Nat) : Int)] 82)
  have HRD := Lib.hid (HR.out.below hb50)
  generalize ((w5.alloc (.cells #[.slice V L.length c] 79)).alloc (.cells #[.string (tl1 a'), .int .i64 k, .string a', .int .i64 ((k - 1 : Nat) : Int)] 82)) = w0 at hw0 hb50 hlb htb hgx0 HRD ⊢
  have h50 := hb50.size
  have hll := hlb.lt
  have hlt := htb.lt
  have hgl := hgx0.lt
  clear hgx hw1 hz5 hgl5 HR hs1 hwk hb50
  generalize w5.heap.size = lb at hlb htb HRD h50 hll hlt ⊢
  go_loopw [12, 13, 14, 16, 65] (fun _ _ _ _ i wr => ∃ j : Nat, j ≤ 2 ∧ i = .int .i64 j ∧ Below w0.heap.size w0 wr) (fun _ _ _ _ i _ => 2 - (intOf i).toNat)
  case atStart => exact ⟨0, by omega, rfl, Below.refl _ _⟩
  case round =>
    obtain ⟨j, hj, rfl, hwr⟩ := hrel
    have hzr := hwr.size
    have hgr := hgx0.below hwr hgl
    have hlr := hlb.below hwr hll
    have htr := htb.below hwr hlt
    have g0 : wr.cell? ⟨w.heap.size, 0, none⟩ = some (.slice A g.length cp) := hgr.cell 0
    have hglr := hgr.lt
    have hllr := hlr.lt
    by_cases hjn : j < 2
    · have hji : (j : Int) < 2 := by omega
      obtain ⟨b, m, hOk, e0, e1⟩ : ∃ (b : ByteArray) (m : Nat), LmOk a' k b m ∧ wr.cell? ⟨lb + 1, j * 2, none⟩ = some (.string b) ∧ wr.cell? ⟨lb + 1, j * 2 + 1, none⟩ = some (.int .i64 m) := by
        match j, hjn with
        | 0, _ => exact ⟨_, _, HT1.out, htr.cell 0, htr.cell 1⟩
        | 1, _ => exact ⟨_, _, HT2.out, htr.cell 2, htr.cell 3⟩
      have hb3 := hOk.three
      have hmk := hOk.le
      have HOKB := Lib.hid hOk
      clear hOk
      go_wp2_with fail
      have hwb : Below w.heap.size w (wr.alloc (.cells #[.string b, .int .i64 m] 82)) := (hw0.trans (hwr.mono hw0.size)).alloc (by have := hw0.size; omega) _
      have h0b : Below w0.heap.size w0 (wr.alloc (.cells #[.string b, .int .i64 m] 82)) := hwr.alloc hzr _
      have hbx : Blk (wr.alloc (.cells #[.string b, .int .i64 m] 82)) wr.heap.size 82 #[.string b, .int .i64 m] := blk_at rfl
      refine (HWH.out _ hwb b m (by omega) (by omega)).mono ?_
      rintro e w6 ⟨hb6, hq⟩
      have hw6 := hwb.trans (hb6.mono hwb.size)
      have h06 := h0b.trans (hb6.mono h0b.size)
      have hbx6 := hbx.below hb6 hbx.lt
      have hlb6 := hlb.below h06 hll
      clear hwb h0b hbx hb6 g0 e0 e1 hgr hlr htr
      rcases hq with ⟨hbad, _⟩ | ⟨_, V2, c2, M, hM, rfl, hown⟩
      · exact absurd (HOKB.out.look HOK.out hk5) hbad
      have HMR := Lib.hid (Reads.of_own hown)
      obtain ⟨hsub, hin⟩ := HCA.out b m HOKB.out
      rw [← hM] at hsub hin
      have hML : M.length ≤ 5000 := by
        rw [hM]
        unfold allL
        have h1 := List.length_filter_le (accG g) (textsL b.data.toList [] m)
        have h2 : (textsL b.data.toList [] m).length ≤ 5000 := by
          rw [textsL_len, rank_zero]
          have h3 : b.data.toList.length = b.size := size_list b
          rw [h3]
          have := lm_few b.size (by omega) m (by omega)
          omega
        omega
      have hcf := lmF_any (cm := c2) hlb6 (HRD.out.below (h06.mono (Nat.le_of_lt hll))) (Nat.le_trans (Nat.le_of_lt hll) h06.size) (by have := HLN.out; omega) HMR.out (Nat.le_refl _) (by omega) hsub
      have HCF := Lib.hid hcf
      have HIN := Lib.hid hin
      have x0 : w6.cell? ⟨wr.heap.size, 0, none⟩ = some (.string b) := hbx6.cell 0
      have x1 : w6.cell? ⟨wr.heap.size, 1, none⟩ = some (.int .i64 m) := hbx6.cell 1
      have l0 : w6.cell? ⟨lb, 0, none⟩ = some (.slice V L.length c) := hlb6.cell 0
      have hM2 : (M.length : Int) ≤ 5000 := by omega
      clear hown hM hsub hin hcf
      go_wp2_with fail
      refine HCF.out.mono ?_
      rintro e w7 ⟨rfl, hb7⟩
      have hw7 := hw6.trans (hb7.mono hw6.size)
      have h07 := h06.trans (hb7.mono h06.size)
      have hbx7 := hbx6.below hb7 hbx6.lt
      have hlb7 := hlb6.below hb7 hlb6.lt
      have HMR7 := Lib.hid (HMR.out.below hb7)
      have l1 : w7.cell? ⟨lb, 0, none⟩ = some (.slice V L.length c) := hlb7.cell 0
      have hbl7 := hbx7.lt
      have hB6 := hb7.size
      clear hb7 hw6 h06 hbx6 hlb6 HMR HCF x0 x1 l0 hlb7 hglr hllr
      generalize wr.heap.size = bb at hbx7 hbl7 ⊢
      generalize w6.heap.size = B6 at HMR7 hB6
      have HJ := Lib.hid (And.intro hj hjn)
      clear hzr hwr hj hjn
      rename World => ws
      go_wp2
      go_loopw [16, 87] (fun _ i wq => ∃ q : Nat, q ≤ L.length ∧ i = .int .i64 q ∧ Below ws.heap.size ws wq) (fun _ i _ => L.length - (intOf i).toNat)
      case atStart => exact ⟨0, by omega, rfl, Below.refl _ _⟩
      case round =>
        obtain ⟨q, hq, rfl, hwq⟩ := hrel
        have hzq := hwq.size
        have h0q := h07.trans (hwq.mono h07.size)
        have hwwq := hw7.trans (hwq.mono hw7.size)
        have hbxq := hbx7.below hwq hbl7
        have x0 : wr.cell? ⟨bb, 0, none⟩ = some (.string b) := hbxq.cell 0
        have x1 : wr.cell? ⟨bb, 1, none⟩ = some (.int .i64 m) := hbxq.cell 1
        by_cases hqn : q < L.length
        · obtain ⟨ad, x, hV, hab, hgx, e0⟩ := reads_str (HRD.out.below (h0q.mono (Nat.le_of_lt hll))) hqn
          subst hV
          have hqi : (q : Int) < (L.length : Int) := by omega
          have hxL := List.mem_of_getElem? hgx
          have hx4 := HL4.out x hxL
          by_cases hs : x.size ≤ m
          · have hsi : (x.size : Int) ≤ (m : Int) := by omega
            have hov := overR_any b x HOKB.out.al (by omega) wr
            by_cases ho : ovN b.data.toList x.data.toList = 0
            · rw [ho] at hov
              have hxM := HIN.out x hxL hs ho
              have HOV := Lib.hid hov
              have HXM := Lib.hid hxM
              clear ho hov hgx hxL hxM
              go_wp2_with fail
              refine HOV.out.mono ?_
              rintro e w8 ⟨rfl, hb8⟩
              have hw8 := hwq.trans (hb8.mono hzq)
              have hct := containsS_any V2 M.length c2 M _ x w8 (HMR7.out.below (hw8.mono hB6)) (by omega)
              rw [decide_eq_true HXM.out] at hct
              have HCT := Lib.hid hct
              clear hb8 hct HOV HXM
              go_wp2_with fail
              refine HCT.out.mono ?_
              rintro e w9 ⟨rfl, d, rfl⟩
              have hw9 := below_drewN hw8 d
              generalize w8.drewN d = w9 at hw9 ⊢
              clear hw8 HCT
              go_wp2
              go_roundw
              case rel => exact ⟨q + 1, by omega, by go_num, hw9⟩
              case measure => simp [intOf]; omega
            · have hob : (ovN b.data.toList x.data.toList == 0) = false := by rw [beq_eq_false_iff_ne]; exact ho
              generalize ovN b.data.toList x.data.toList = y at hov hob
              have HOV := Lib.hid hov
              clear ho hov hgx hxL
              go_wp2_with fail
              refine HOV.out.mono ?_
              rintro e w8 ⟨rfl, hb8⟩
              have hw8 := hwq.trans (hb8.mono hzq)
              clear hb8
              go_wp2
              go_roundw
              case rel => exact ⟨q + 1, by omega, by go_num, hw8⟩
              case measure => simp [intOf]; omega
          · have hsi : ((x.size : Int) ≤ (m : Int)) = False := by simp; omega
            clear hgx hxL
            go_wp2
            go_roundw
            case rel => exact ⟨q + 1, by omega, by go_num, hwq⟩
            case measure => simp [intOf]; omega
        · obtain rfl : q = L.length := by omega
          have hj2 := HJ.out
          go_wp2
          go_roundw
          case rel => exact ⟨j + 1, by omega, by go_num, h0q⟩
          case measure => simp [intOf]; omega
    · obtain rfl : j = 2 := by omega
      go_wp2
      go_ret
      exact ⟨rfl, hw0.trans (hwr.mono hw0.size)⟩
end Go.Proofs.Ytkmcnekjimobhaa
