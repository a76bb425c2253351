/- The walk of the law ListParts. -/
import Derived.Test.YtlamphneimpdlaaLsR
import Derived.Test.YtlamphneimpdlaaLsX
namespace Go.Proofs.Ytlamphneimpdlaa
open Go.RowKit

/-- what a budget is made to -/
def budN (z : Int) : Nat := if wiN z 1048577 < 1048576 then wiN z 1048577 % 50 else wiN z 1048577
theorem budN_le (z : Int) : budN z ≤ 1048576 := by
  have := wiN_lt z (n := 1048577) (by decide)
  unfold budN
  split <;> omega
theorem budN_top : budN 1048576 = 1048576 := by decide +kernel
/-- all budgets of the first so many -/
def sumB (zs : List Int) : Nat → Nat
  | 0 => 0
  | j + 1 => sumB zs j + budN (zs.getD j 0)
theorem sumB_succ {zs : List Int} {j : Nat} {z : Int} (h : zs[j]? = some z) : sumB zs (j + 1) = sumB zs j + budN z := by
  simp [sumB, List.getD_eq_getElem?_getD, h]
theorem listL_step {acc : ByteArray → Bool} {a : List UInt8} {k : Nat} (ha : AlphaOk a) (hk : k ≤ 6) (b b' : Nat) : (listL acc a k (⟨#[]⟩, false) b).1 ++ (listL acc a k (listL acc a k (⟨#[]⟩, false) b).2 b').1 = (listL acc a k (⟨#[]⟩, false) (b + b')).1 ∧ (listL acc a k (listL acc a k (⟨#[]⟩, false) b).2 b').2 = (listL acc a k (⟨#[]⟩, false) (b + b')).2 :=
  listL_two hk (cur_start ha k) rfl
theorem listL_len {acc : ByteArray → Bool} {a : List UInt8} {k : Nat} (c : Cur) (b : Nat) : (listL acc a k c b).1.length ≤ shN a.length (k + 1) := by
  unfold listL
  split
  · simp
  · have h1 := textsL_len a c.1.data.toList k
    split
    · have h2 := List.length_filter_le acc ((textsL a c.1.data.toList k).take b)
      rw [List.length_take] at h2
      simp only
      omega
    · have h2 := List.length_filter_le acc (textsL a c.1.data.toList k)
      simp only
      omega
theorem listL_zero {acc : ByteArray → Bool} {a : List UInt8} {k : Nat} (ha : AlphaOk a) : listL acc a k (⟨#[]⟩, false) 0 = ([], (⟨#[]⟩, false)) := by
  have h0 : rank a (⟨#[]⟩ : ByteArray).data.toList = 0 := rank_zero a
  have hp : 0 < shN a.length (k + 1) := by
    have := shN_mono (m := a.length) (show 1 ≤ k + 1 by omega)
    have h1 : shN a.length 1 = 1 := by simp [shN]
    omega
  unfold listL
  rw [if_neg (by simp), if_pos (by rw [textsL_len, h0]; omega)]
  have h2 : textOf a 0 = (⟨#[]⟩ : ByteArray) := by
    have := textOf_is (a := a) (u := ⟨#[]⟩) ⟨ha, by simp, by simp⟩
    rwa [h0] at this
  rw [h0, Nat.zero_add, h2]
  simp
theorem xs_one : listL (accG xG) (⟨#[120]⟩ : ByteArray).data.toList 1 (⟨#[]⟩, false) 1 = ([], (⟨#[120]⟩, false)) := by
  have h0 : accG xG ⟨#[]⟩ = false := x_acc _ (by decide) (o := none) (by decide +kernel)
  have e : textsL (⟨#[120]⟩ : ByteArray).data.toList (⟨#[]⟩ : ByteArray).data.toList 1 = [⟨#[]⟩, ⟨#[120]⟩] := texts_x1
  have hr : rank (⟨#[120]⟩ : ByteArray).data.toList (⟨#[]⟩ : ByteArray).data.toList = 0 := rank_zero _
  have ht : textOf (⟨#[120]⟩ : ByteArray).data.toList 1 = (⟨#[120]⟩ : ByteArray) := by
    have h1 : rank [120] (⟨#[120]⟩ : ByteArray).data.toList = 1 := by decide +kernel
    have := textOf_is (a := [120]) (u := ⟨#[120]⟩) (over_of x_ok (by decide))
    rwa [h1] at this
  unfold listL
  rw [if_neg (by simp), e, if_pos (by decide), hr, Nat.zero_add, ht]
  simp [h0]
theorem x_lookok : LookOk xG ⟨#[120]⟩ 1 := ⟨x_well, x_ok, 1, rfl, by decide, by decide +kernel⟩

set_option maxRecDepth 100000 in
set_option maxHeartbeats 8000000 in
theorem walk_ListParts {g : List Rl} {A LA : Option Addr} {cp bn bc : Nat} {row : Nat → List Value} (a : ByteArray) (n : Int) (zs : List Int) (w : World) (h : GrIs w w.heap.size g A cp row) (hwf : ∀ r ∈ g, WfE r.2) (hz : Reads w w.heap.size 1 LA bn (ints zs)) (hbn : Small bn) (hnil : LA = none → bc = 0) :
    Calls Try.prog 4 #[.agg #[.slice A g.length cp], .string a, .int .i64 n, .slice LA bn bc] w fun e w' => e = .returned (.bool true) ∧ Below w.heap.size w w' := by
  have hsc := run_same_cur
  obtain ⟨is, his, hsz0, hsz1, hsz2⟩ := info_parts str_info
  obtain ⟨ii, hii, hiz0, hiz1, hiz2⟩ := info_parts int_info
  have hlit := lit_b ⟨#[120]⟩
  have hone := fun W => one_b (litE ⟨#[120]⟩) _ W (litE_is W ⟨#[120]⟩ (by decide))
  have hwh := fun W (hW : Below w.heap.size w W) (a' : ByteArray) (k : Nat) (ha : a'.size ≤ 140737488351232) (hk : k ≤ 6) => whole_any (h.grow hW) hwf a' k ha hk
  have hli := fun W (hW : Below w.heap.size w W) (a' : ByteArray) (k : Nat) (ha : a'.size ≤ 140737488351232) (hk : k ≤ 6) (c : Cur) (hc : c.1.size ≤ 140737488351232) (b : Int) => list_any (h.grow hW) hwf a' k ha ⟨by omega, by omega⟩ c hc b
  have hcl := fun W (hW : Below w.heap.size w W) => clone_any LA bn bc zs w.heap.size W (hz.below hW) hW.size hnil hbn
  have hsm := fun W => small_any a n W
  have hwi := fun (z : Int) W => within_any z 1048577 (by decide) (by decide) W
  have hk5 : wiN n 5 < 5 := wiN_lt n (by decide)
  have hsz := smA_size a
  obtain ⟨a', ha'⟩ : ∃ a', smA a = a' := ⟨_, rfl⟩
  obtain ⟨k, hk⟩ : ∃ k, wiN n 5 = k := ⟨_, rfl⟩
  rw [ha', hk] at hsm
  rw [hk] at hk5
  rw [ha'] at hsz
  have hzl : zs.length = bn := hz.ints_len
  unfold exCells at hlit hone
  unfold curV at hli
  have HWH := Lib.hid hwh
  have HLI := Lib.hid hli
  have HCL := Lib.hid hcl
  have HSM := Lib.hid hsm
  have HWI := Lib.hid hwi
  have HL := Lib.hid hlit
  have HO := Lib.hid hone
  clear hwh hli hcl hsm hwi hlit hone h hwf ha' hk hz hnil
  go_enter Try.func4, Try.ntmps4
  go_wp2_with fail
  refine (HL.out _).mono ?_
  rintro e w1 ⟨rfl, hb1⟩
  have hgx : Blk w1 w.heap.size 24 #[.slice A g.length cp] := (blk_at rfl).below hb1 (by simp)
  have hw1 : Below w.heap.size w w1 := ((Below.refl _ w).alloc (Nat.le_refl _) _).trans (hb1.mono (by simp))
  clear hb1
  go_wp2_with fail
  refine (HO.out _).mono ?_
  rintro e w3 ⟨b, rfl, hG, hb3⟩
  have hgx3 := hgx.below hb3 hgx.lt
  have hw3 := hw1.trans (hb3.mono hw1.size)
  clear hb3 hgx hw1
  have hst := list_any hG (wf_g1 (wf_lit _)) ⟨#[120]⟩ 1 (by decide) ⟨by decide, by decide⟩ (⟨#[]⟩, false) (by decide) 1
  unfold curV at hst
  have HST := Lib.hid hst
  clear hst hG
  go_wp2_with fail
  refine HST.out.mono ?_
  rintro e w4 ⟨hb4, hq⟩
  have hgx4 := hgx3.below hb4 hgx3.lt
  have hw4 := hw3.trans (hb4.mono hw3.size)
  clear hgx3 hw3 HST
  rcases hq with ⟨hbad, _⟩ | ⟨_, hbad, _⟩ | ⟨_, _, V, c, l, c', hl, rfl, hown⟩
  · exact absurd x_lookok hbad
  · exact absurd ⟨by decide, by decide, cur_start x_ok _⟩ hbad
  have hl2 : listL (accG xG) (⟨#[120]⟩ : ByteArray).data.toList 1 (⟨#[]⟩, false) 1 = (l, c') := hl
  rw [xs_one] at hl2
  injection hl2 with e1 e2
  subst e1 e2
  clear hown hb4 hl
  have hz4 := hw4.size
  have hgl4 := hgx4.lt
  unfold curV
  simp only [List.length_nil]
  go_wp2_with fail
  refine (HSM.out _).mono ?_
  rintro e w6 ⟨rfl, hb6⟩
  have hgx5 : Blk (w4.alloc (.cells #[.string ⟨#[120]⟩, .bool false] 50)) w.heap.size 24 #[.slice A g.length cp] := hgx4.alloc _
  have hw5 : Below w.heap.size w (w4.alloc (.cells #[.string ⟨#[120]⟩, .bool false] 50)) := (by repeat (first | exact Below.refl _ _ | assumption | refine Below.drew ?_ | refine below_drewN ?_ _ | refine Below.alloc ?_ (by first | omega | (simp; omega) | simp) _ | refine Below.setCell ?_ (by first | omega | (simp; omega) | simp) _))
  have hgx6 := hgx5.below hb6 hgx5.lt
  have hw6 : Below w.heap.size w w6 := hw5.trans (hb6.mono hw5.size)
  have g6 : w6.cell? ⟨w.heap.size, 0, none⟩ = some (.slice A g.length cp) := hgx6.cell 0
  clear hb6 hw5 hgx5 hw4 hgx4 hz4 hgl4
  go_wp2_with fail
  refine (HWH.out _ hw6 a' k (by omega) (by omega)).mono ?_
  rintro e w7 ⟨hb7, hq⟩
  have hgx7 := hgx6.below hb7 hgx6.lt
  have hw7 : Below w.heap.size w w7 := hw6.trans (hb7.mono hw6.size)
  have g7 : w7.cell? ⟨w.heap.size, 0, none⟩ = some (.slice A g.length cp) := hgx7.cell 0
  clear hb7 g6 hw6 hgx6
  rcases hq with ⟨hbad, x, h0, h11, rfl⟩ | ⟨hlo, V7, c7, l7, hl7, rfl, hown7⟩
  · have hxb : (x != 0) = true := by rw [bne_iff_ne]; exact h0
    clear h0 h11 hbad HLI HWH
    go_wp2
    go_ret
    exact ⟨rfl, hw7⟩
  have hlo' := hlo
  obtain ⟨hwell, hao, k', hkk, hk6', h5000⟩ := hlo'
  obtain rfl : k = k' := by omega
  have hlen : a'.data.toList.length = a'.size := size_list a'
  have hT5 : shN a'.data.toList.length (k + 1) ≤ 5000 := by rw [hlen]; exact h5000
  have hgl7 := hgx7.lt
  have HOWN7 := Lib.hid (Reads.of_own hown7)
  have HL7 := Lib.hid hl7
  have HLO := Lib.hid hlo
  have HAO := Lib.hid hao
  clear hown7 hl7 hlo hao hlen h5000 hwell hkk HWH
  obtain ⟨acc, hacc⟩ : ∃ acc, accG g = acc := ⟨_, rfl⟩
  rw [hacc] at HL7
  unfold ListQ at HLI
  rw [hacc] at HLI
  clear hacc
  go_wp2_with fail
  refine (HCL.out _ (by repeat (first | exact Below.refl _ _ | assumption | refine Below.drew ?_ | refine below_drewN ?_ _ | refine Below.alloc ?_ (by first | omega | (simp; omega) | simp) _ | refine Below.setCell ?_ (by first | omega | (simp; omega) | simp) _))).mono ?_
  rintro e w8 ⟨CV, cc, rfl, hco, hb8⟩
  have hgx8 := (hgx7.alloc (.cells #[.string ⟨#[]⟩, .bool false] 50)).below hb8 (by simp; omega)
  have hcx8 : Blk w8 w7.heap.size 50 #[.string ⟨#[]⟩, .bool false] := (blk_at rfl).below hb8 (by simp)
  have hw8 : Below w.heap.size w w8 := (hw7.alloc hw7.size _).trans (hb8.mono (by simp; have := hw7.size; omega))
  have h78 : Below w7.heap.size w7 w8 := ((Below.refl _ w7).alloc (Nat.le_refl _) _).trans (hb8.mono (by simp))
  have hz8 := h78.size
  have hzw7 := hw7.size
  clear hb8
  unfold Small at hbn
  go_wp2_with (at_builtin; refine wpList_append_own _ rfl _ _ _ rfl (w7.heap.size + 1) 3 ii _ 1 8 Try.underlying48 hii hiz0 hiz1 hiz2 rfl (by decide) _ _ _ rfl ((ownsRow_low hco (by simp)).alloc _) ⟨w8.heap.size, 0, none⟩ 1 1 [.int .i64 1048576] rfl rfl (new_cells w8 3 [.int .i64 1048576]) (by simp [Value.oneCell']) (by unfold maxLen; omega) (by omega) (by simp; omega) ?_; intro v' w9 hown9 hgr9 _; obtain ⟨BV, bc9, rfl⟩ := own_form hown9)
  have hcl := strs_len HOWN7.out
  have hz9 := hgr9.size
  simp only [World.size_alloc] at hz9
  have hown9' : w9.ownsRow (w7.heap.size + 1) 3 1 (.slice BV (bn + 1) bc9) (bn + 1) (ints (zs ++ [1048576])) := by rw [ints_append]; exact hown9
  have hBV : ∀ q, (Value.slice BV (bn + 1) bc9).ownBlock = some q → q < w9.heap.size := fun q hq => (hown9.lt q hq).2
  have hco8 : (w8.alloc (.cells #[.int .i64 1048576] 3)).ownsRow (w7.heap.size + 1) 3 1 (.slice CV bn cc) bn (ints zs) := (ownsRow_low hco (by simp)).alloc _
  have hcx9 : Blk w9 w7.heap.size 50 #[.string ⟨#[]⟩, .bool false] := (hcx8.alloc _).grown hgr9 (own_ne hco8 (by omega))
  have h79 : Below w7.heap.size w7 w9 := below_app (h78.alloc (by omega) _) hco8 hgr9 (by simp; omega) (by omega)
  have hw9 : Below w.heap.size w w9 := hw7.trans (h79.mono hzw7)
  have hzl9 : (zs ++ [(1048576 : Int)]).length = bn + 1 := by simp [hzl]
  have hlast : ∀ j z, (zs ++ [(1048576 : Int)])[j]? = some z → j = bn → z = 1048576 := fun j z hz hj => by
    subst hj
    rw [List.getElem?_append_right (by omega)] at hz
    simpa [hzl] using hz.symm
  have H9 := Lib.hid hown9'
  have HLZ := Lib.hid hzl9
  have HLA := Lib.hid hlast
  have HBV := Lib.hid hBV
  have h79s : w7.heap.size < w9.heap.size := by omega
  have hst0 := listL_zero (acc := acc) (k := k) HAO.out
  have HS0 := Lib.hid hst0
  clear hst0 hown9 hown9' hgr9 hco hco8 hBV hcx8 hgx8 hw8 h78 hz8 hzl9 hlast hcl
  generalize hZ : zs ++ [(1048576 : Int)] = Z at H9 HLZ HLA
  clear hZ hzl
  go_loopw [14, 62] (fun v i wr => ∃ (j : Nat) (V : Option Addr) (c : Nat), j ≤ bn + 1 ∧ i = .int .i64 j ∧ v = .slice V (listL acc a'.data.toList k (⟨#[]⟩, false) (sumB Z j)).1.length c ∧
    Hid (wr.ownsRow w9.heap.size 9 1 (.slice V (listL acc a'.data.toList k (⟨#[]⟩, false) (sumB Z j)).1.length c) (listL acc a'.data.toList k (⟨#[]⟩, false) (sumB Z j)).1.length ((listL acc a'.data.toList k (⟨#[]⟩, false) (sumB Z j)).1.map Value.string)) ∧
    Blk wr w7.heap.size 50 #[.string (listL acc a'.data.toList k (⟨#[]⟩, false) (sumB Z j)).2.1, .bool (listL acc a'.data.toList k (⟨#[]⟩, false) (sumB Z j)).2.2] ∧ Hid (wr.ownsRow (w7.heap.size + 1) 3 1 (.slice BV (bn + 1) bc9) (bn + 1) (ints Z)) ∧
    Below w7.heap.size w7 wr ∧ w9.heap.size ≤ wr.heap.size) (fun _ i _ => bn + 1 - (intOf i).toNat)
  case atStart =>
    refine ⟨0, none, 0, by omega, rfl, ?_, ?_, ?_, H9, h79, Nat.le_refl _⟩
    · show _ = Value.slice none (listL acc a'.data.toList k (⟨#[]⟩, false) 0).1.length 0
      rw [HS0.out]; rfl
    · show World.ownsRow _ _ _ _ (Value.slice none (listL acc a'.data.toList k (⟨#[]⟩, false) 0).1.length 0) (listL acc a'.data.toList k (⟨#[]⟩, false) 0).1.length ((listL acc a'.data.toList k (⟨#[]⟩, false) 0).1.map Value.string)
      rw [HS0.out]; exact World.ownsRow_nil _ _ _ _
    · show Blk _ _ _ #[.string (listL acc a'.data.toList k (⟨#[]⟩, false) 0).2.1, .bool (listL acc a'.data.toList k (⟨#[]⟩, false) 0).2.2]
      rw [HS0.out]; exact hcx9
  case round =>
    clear hcx9 h79 hw9 H9
    obtain ⟨j, V, c, hj, rfl, rfl, HO, hcx, HB, h7r, h9r⟩ := hrel
    have hz7 := h7r.size
    have hwr : Below w.heap.size w wr := hw7.trans (h7r.mono hzw7)
    have hgxr := hgx7.below h7r hgl7
    have gr : wr.cell? ⟨w.heap.size, 0, none⟩ = some (.slice A g.length cp) := hgxr.cell 0
    have hcl := hcx.lt
    obtain ⟨bs, hbs⟩ : ∃ bs, sumB Z j = bs := ⟨_, rfl⟩
    rw [hbs] at HO hcx ⊢
    have hcur := listL_ok (acc := acc) (b := bs) hk6' (cur_start HAO.out k)
    have hstep := listL_step (acc := acc) HAO.out hk6' bs
    obtain ⟨⟨lg, cs, co⟩, hlg⟩ : ∃ x : List ByteArray × Cur, listL acc a'.data.toList k (⟨#[]⟩, false) bs = x := ⟨_, rfl⟩
    have hlen1 := listL_len (acc := acc) (k := k) (a := a'.data.toList) (⟨#[]⟩, false) bs
    rw [hlg] at HO hcx hcur hstep hlen1 ⊢
    simp only at HO hcx hcur hstep hlen1 ⊢
    have x0 : wr.cell? ⟨w7.heap.size, 0, none⟩ = some (.string cs) := hcx.cell 0
    have x1 : wr.cell? ⟨w7.heap.size, 1, none⟩ = some (.bool co) := hcx.cell 1
    by_cases hjn : j < bn + 1
    · obtain ⟨ad, z, hA, hab, hg, e0⟩ := (Reads.of_own HB.out).int_at hjn
      subst hA
      have hsum := sumB_succ hg
      rw [hbs] at hsum
      have hbl := budN_le z
      have hbd : budN z = if wiN z 1048577 < 1048576 then wiN z 1048577 % 50 else wiN z 1048577 := rfl
      have hwi := HWI.out z
      have hwlt := wiN_lt z (n := 1048577) (by decide)
      obtain ⟨q, hq⟩ : ∃ q, wiN z 1048577 = q := ⟨_, rfl⟩
      rw [hq] at hwi hwlt hbd
      obtain ⟨bz, hbz⟩ : ∃ bz, budN z = bz := ⟨_, rfl⟩
      rw [hbz] at hbd hsum hbl
      have hst2 := hstep bz
      have hlen2 := listL_len (acc := acc) (k := k) (a := a'.data.toList) (cs, co) bz
      have hlen3 := listL_len (acc := acc) (k := k) (a := a'.data.toList) (⟨#[]⟩, false) (bs + bz)
      have hc60 : cs.size ≤ 140737488351232 := by have h6 := hcur.1.2.1; have h7 := size_list cs; simp only at h6; omega
      have hli := fun W (hW : Below w.heap.size w W) => HLI.out W hW a' k (by omega) hk6' (cs, co) hc60 bz
      have HL1 := Lib.hid hli
      have HW1 := Lib.hid hwi
      have HST := Lib.hid hst2
      have HSM2 := Lib.hid hsum
      have HCU := Lib.hid hcur
      have hji : (j : Int) < ((bn : Nat) : Int) + 1 := by omega
      have hadl : ad.block < wr.heap.size := hab
      clear hg hq hbz hst2 hstep hcur hli hwi hsum hbs hlg
      rcases Nat.lt_or_ge q 1048576 with hq1 | hq1
      case' inl =>
        have hqi : (q : Int) < 1048576 := by omega
        have hmod : (q : Int).tmod 50 = (bz : Int) := by rw [Int.tmod_eq_emod_of_nonneg (by omega), hbd, if_pos hq1]; omega
      case' inr =>
        have hqi : ((q : Int) < 1048576) = False := by simp; omega
        have hbq : bz = q := by rw [hbd, if_neg (by omega)]
        subst hbq
      all_goals
        clear hbd
        go_wp2_with fail
        refine (HW1.out _).mono ?_
        rintro e w10 ⟨rfl, hb10⟩
        have hw10 : Below w.heap.size w w10 := hwr.trans (hb10.mono (by omega))
        have h710 : Below w7.heap.size w7 w10 := h7r.trans (hb10.mono hz7)
        have hgx10 := hgxr.below hb10 (by omega)
        have hcx10 := hcx.below hb10 hcl
        have hO10 := own_below HO.out hb10
        have hB10 := own_below HB.out hb10
        have hz10 := hb10.size
        have hcl10 := hcx10.lt
        have g10 : w10.cell? ⟨w.heap.size, 0, none⟩ = some (.slice A g.length cp) := hgx10.cell 0
        have y0 : w10.cell? ⟨w7.heap.size, 0, none⟩ = some (.string cs) := hcx10.cell 0
        have y1 : w10.cell? ⟨w7.heap.size, 1, none⟩ = some (.bool co) := hcx10.cell 1
        clear hb10 x0 x1 gr
        go_wp2_with fail
        refine (HL1.out _ hw10).mono ?_
        rintro e w11 ⟨hb11, hq⟩
        have hcx11 := hcx10.below hb11 hcx10.lt
        have hO11 := own_below hO10 hb11
        have hB11 := own_below hB10 hb11
        have h711 : Below w7.heap.size w7 w11 := h710.trans (hb11.mono (by omega))
        have hz11 := hb11.size
        clear hb11
        rcases hq with ⟨hbad, _⟩ | ⟨_, hbad, _⟩ | ⟨_, _, V2, c2, l2, c2', hl2, rfl, hown2⟩
        · exact absurd HLO.out hbad
        · exact absurd ⟨by omega, by omega, by simpa using HCU.out⟩ hbad
        obtain ⟨ds, dob⟩ := c2'
        have hl2' : listL acc a'.data.toList k (cs, co) bz = (l2, (ds, dob)) := by simpa using hl2
        have hst := HST.out
        rw [hl2'] at hst hlen2
        obtain ⟨st1, st2⟩ := hst
        simp only at st1 st2 hlen2
        have hnx : listL acc a'.data.toList k (⟨#[]⟩, false) (bs + bz) = (lg ++ l2, (ds, dob)) := Prod.ext st1.symm st2.symm
        have HNX := Lib.hid hnx
        clear hl2 hl2' hlen3 st1 st2 hnx HST HL1 HW1
        have z0 : w11.cell? ⟨w7.heap.size, 0, none⟩ = some (.string cs) := hcx11.cell 0
        have z1 : w11.cell? ⟨w7.heap.size, 1, none⟩ = some (.bool co) := hcx11.cell 1
        have zf0 := hcx11.frozen 0
        have zf1 := hcx11.frozen 1
        have hO12 := own_setfar (own_setfar hO11 (k := w7.heap.size) (by omega) 0 (.string ds)) (k := w7.heap.size) (by omega) 1 (.bool dob)
        have hB12 := own_setfar (own_setfar hB11 (k := w7.heap.size) (by omega) 0 (.string ds)) (k := w7.heap.size) (by omega) 1 (.bool dob)
        have hown12 := own_setfar (own_setfar hown2 (k := w7.heap.size) (by omega) 0 (.string ds)) (k := w7.heap.size) (by omega) 1 (.bool dob)
        have hcx12 : Blk ((w11.setCell ⟨w7.heap.size, 0, none⟩ (.string ds)).setCell ⟨w7.heap.size, 1, none⟩ (.bool dob)) w7.heap.size 50 #[.string ds, .bool dob] := (hcx11.set_ 0 _).set_ 1 _
        have h712 : Below w7.heap.size w7 ((w11.setCell ⟨w7.heap.size, 0, none⟩ (.string ds)).setCell ⟨w7.heap.size, 1, none⟩ (.bool dob)) := (h711.setCell (Nat.le_refl _) _).setCell (Nat.le_refl _) _
        have hz12 : ((w11.setCell ⟨w7.heap.size, 0, none⟩ (.string ds)).setCell ⟨w7.heap.size, 1, none⟩ (.bool dob)).heap.size = w11.heap.size := by simp [World.setCell]
        unfold curV
        simp only
        go_wp2_with (at_builtin; refine wpList_append_own_any rfl _ _ _ rfl w9.heap.size w10.heap.size 9 is _ 1 16 Try.underlying25 his hsz0 hsz1 hsz2 rfl (by decide) _ _ _ rfl hO12 V2 l2.length c2 _ rfl hown12 (by intro u hu; obtain ⟨x, _, rfl⟩ := List.mem_map.1 hu; rfl) (by unfold maxLen; omega) (by omega) (by rw [hz12]; omega) ?_; intro v' w13 hown13 hgr13; obtain ⟨V3, c3, rfl⟩ := own_form hown13)
        replace hgr13 : ((w11.setCell ⟨w7.heap.size, 0, none⟩ (.string ds)).setCell ⟨w7.heap.size, 1, none⟩ (.bool dob)).grownBy w13 (Value.slice V lg.length c).ownBlock := hgr13
        have hs13 := hgr13.size
        rw [hz12] at hs13
        have h713 : Below w7.heap.size w7 w13 := below_app h712 hO12 hgr13 (by rw [hz12]; omega) (by omega)
        have hcx13 := hcx12.grown hgr13 (own_ne hO12 (by omega))
        have hB13 : w13.ownsRow (w7.heap.size + 1) 3 1 (.slice (some ad) (bn + 1) bc9) (bn + 1) (ints Z) := hB12.kept hgr13 (.inr fun e => by
          have h1 := HBV.out _ rfl
          cases hov : (Value.slice V lg.length c).ownBlock with
          | none => rw [hov] at e; cases e
          | some q' =>
            have h2 := (hO12.lt q' hov).1
            rw [hov] at e
            have h3 := HBV.out q' e
            omega)
        have hll : (lg ++ l2).length = lg.length + l2.length := List.length_append
        go_roundw
        case rel =>
          refine ⟨j + 1, V3, c3, by omega, by go_num, ?_, ?_, ?_, hB13, h713, by omega⟩
          · rw [HSM2.out, HNX.out, hll]
          · show World.ownsRow _ _ _ _ _ _ _
            rw [HSM2.out, HNX.out, List.map_append, hll]
            exact hown13
          · rw [HSM2.out, HNX.out]
            exact hcx13
        case measure => simp [intOf]; omega
    · obtain rfl : j = bn + 1 := by omega
      have hz0 : Z[bn]? = some 1048576 := by
        obtain ⟨z, hz⟩ : ∃ z, Z[bn]? = some z := ⟨_, List.getElem?_eq_getElem (by rw [HLZ.out]; omega)⟩
        rw [hz, HLA.out bn z hz rfl]
      have hb1 : 1048576 ≤ bs := by
        have h1 := sumB_succ hz0
        rw [budN_top] at h1
        omega
      have hall := listL_all (acc := acc) (a := a'.data.toList) (n := k) (b := bs) (by omega)
      rw [hlg] at hall
      injection hall with e1 e2
      injection e2 with e2 e3
      subst e2 e3
      have hl7' := HL7.out
      rw [← e1] at hl7'
      subst hl7'
      have hel := strs_len HOWN7.out
      have heq := equalS_any V V7 l7.length c l7.length c7 l7 l7 _ _ wr (Reads.of_own HO.out) (HOWN7.out.below h7r) (by omega) (by omega)
      have HEQ := Lib.hid heq
      clear heq e1 hlg hb1 hz0
      go_wp2_with fail
      refine HEQ.out.mono ?_
      rintro e w10 ⟨rfl, d, rfl⟩
      go_wp2
      go_ret
      exact ⟨by simp, (by repeat (first | exact Below.refl _ _ | assumption | refine Below.drew ?_ | refine below_drewN ?_ _ | refine Below.alloc ?_ (by first | omega | (simp; omega) | simp) _ | refine Below.setCell ?_ (by first | omega | (simp; omega) | simp) _))⟩
end Go.Proofs.Ytlamphneimpdlaa
