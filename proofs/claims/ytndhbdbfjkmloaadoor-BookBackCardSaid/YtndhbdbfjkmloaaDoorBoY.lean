/- Books, walks: book.Read. -/
import Derived.Test.YtndhbdbfjkmloaaDoorBoX
import Derived.Test.YtndhbdbfjkmloaaDoorSplA
namespace Go.Proofs.YtndhbdbfjkmloaaDoor
open Go.RowKit

theorem add_offB (F i : Nat) : (⟨F, 0, none⟩ : Addr).add i = ⟨F, i, none⟩ := by
  cases i with
  | zero => rfl
  | succ i => simp [Addr.add]
theorem lines_size : ∀ (l x : List UInt8), x ∈ linesP l → x.length ≤ l.length
  | [], x, h => by
    rw [linesP, List.mem_singleton] at h
    subst h; simp
  | b :: l, x, h => by
    rw [linesP] at h
    split at h
    · rcases List.mem_cons.1 h with rfl | h
      · simp
      · have := lines_size l x h; simp; omega
    · split at h
      · rw [List.mem_singleton] at h; subst h; simp
      · rename_i y r hy
        rcases List.mem_cons.1 h with rfl | h
        · have := lines_size l y (by rw [hy]; simp); simp; omega
        · have := lines_size l x (by rw [hy]; simp [h]); simp; omega
theorem case_infoB : (Tryd.prog.info? 49).map (fun i => (i.zero, i.size, i.bytes)) = some (some (.agg #[.int .i64 0, .int .i64 0, .string ⟨#[]⟩]), 3, 32) := by kernel_rfl
theorem caseC_snocB (l : List Cs) (c : Cs) : caseC (l ++ [c]) = caseC l ++ c.vals := by simp [caseC]
theorem new_cellsB (w : World) (t : TypeId) (cs : List Value) : ∀ (j : Nat) (u : Value), cs[j]? = some u → (w.alloc (.cells cs.toArray t)).cell? ((⟨w.heap.size, 0, none⟩ : Addr).add j) = some u := by
  intro j u h
  have hb : Blk (w.alloc (.cells cs.toArray t)) w.heap.size t cs.toArray := blk_at rfl
  rw [add_offB, hb.cell]
  simpa using h
/-- what strings.Split gives -/
theorem split_any (s : ByteArray) (hs : s.size ≤ 2000) (w : World) (hM : MaxP w) : Calls Tryd.prog 42 #[.string s, .string ⟨#[10]⟩] w fun e w' =>
    ∃ (ad : Addr) (n : Nat) (L : List ByteArray), e = .returned (.slice (some ad) n n) ∧ L.map (·.data.toList) = linesP s.data.toList ∧ L.length = n ∧ n ≤ 2001 ∧ Reads w' w'.heap.size 1 (some ad) n (L.map Value.string) ∧ Below w.heap.size w w' := by
  obtain ⟨m, hm⟩ := hM
  refine (sh_strings_Split s ⟨#[10]⟩ m w (by omega) hm (by decide)).mono fun e w' ⟨he, hw⟩ => ?_
  have hl := Lib.splitB_all ⟨#[10]⟩ (by decide) 0 _ s rfl
  have hc := Lib.countB_le ⟨#[10]⟩ (by decide) s.size s (Nat.le_refl _)
  refine ⟨⟨w.heap.size, 0, none⟩, _, _, he, split_is s, hl, by omega, ⟨by rw [List.length_map, hl, Nat.mul_one], fun _ => ⟨_, rfl, by rw [hw]; simp, fun j u hu => ?_⟩⟩, by rw [hw]; exact (Below.refl _ w).alloc (Nat.le_refl _) _⟩
  have hb : Blk w' w.heap.size 9 ((Lib.splitB ⟨#[10]⟩ 0 (Lib.countB s ⟨#[10]⟩) s).map Value.string).toArray := by rw [hw]; exact blk_at rfl
  rw [add_offB, hb.cell, ← hu]
  simp
/-- what book.Read answers -/
def BReadQ (r : List Cs × Int × Int) (w : World) (e : Ending) (w' : World) : Prop := Below w.heap.size w w' ∧ ∃ V c, e = .returned (.tuple #[.slice V r.1.length c, .int .i64 r.2.1, .int .i64 r.2.2]) ∧ Reads w' w'.heap.size 3 V r.1.length (caseC r.1)

set_option maxRecDepth 100000 in
set_option maxHeartbeats 4000000 in
theorem bread_any (s : ByteArray) (w : World) (hT : LibP w) : Calls Tryd.prog 22 #[.string s] w (BReadQ (breadR s.data.toList) w) := by
  obtain ⟨i0, hi0, hz0, hz1, hz2⟩ := info_parts case_infoB
  have HSP := Lib.hid (fun (h : s.size ≤ 2000) => split_any s h w hT.max)
  have HON := Lib.hid (fun (x : ByteArray) (hx : x.size ≤ 2000) (W : World) (hW : Below w.heap.size w W) => bone_any x hx W (hT.on hW))
  have HQ : Hid (∀ (l : List Cs) (p x : Int) (n : Nat) (W : World), Below w.heap.size w W → breadR s.data.toList = (l, p, x) → l.length = n → ∀ V c, Reads W W.heap.size 3 V n (caseC l) → BReadQ (breadR s.data.toList) w (.returned (.tuple #[.slice V n c, .int .i64 p, .int .i64 x])) W) := fun l p x n W hW hr hn V c hR => by rw [hr]; subst hn; exact ⟨hW, V, c, rfl, hR⟩
  generalize BReadQ (breadR s.data.toList) w = Q at HQ ⊢
  have hsl := size_list s
  by_cases hs : s.size ≤ 2000
  · have hgt : ¬ (2000 : Int) < (s.size : Int) := by omega
    have HBR : Hid (breadR s.data.toList = readR (linesP s.data.toList) 0 []) := by show _ = _; unfold breadR; rw [if_neg (by omega)]
    have HLS : Hid (∀ x ∈ linesP s.data.toList, x.length ≤ 2000) := fun x hx => by have := lines_size _ x hx; omega
    generalize breadR s.data.toList = R at HBR HQ
    clear hT
    go_enter Tryd.func22, Tryd.ntmps22
    go_wp2_with fail
    refine (HSP.out hs).mono ?_
    rintro e w1 ⟨ad, n, L, rfl, hL, hn, hn2, hRd, hb1⟩
    have hz1w := hb1.size
    rw [← hL] at HBR HLS
    have had : ad.block < w1.heap.size := by
      have hp : 0 < n := by
        rcases Nat.eq_zero_or_pos n with h | h
        · rw [h] at hn
          have : L = [] := List.eq_nil_of_length_eq_zero hn
          rw [this] at hL
          exact absurd hL.symm (linesP_ne _)
        · exact h
      obtain ⟨ad', e1, e2, _⟩ := hRd.lies hp
      injection e1 with e1
      subst e1
      exact e2
    have HRD := Lib.hid hRd
    have HN := Lib.hid hn
    clear hL hRd HSP hn
    go_wp2
    go_loopw [5, 6, 7, 8, 9, 16] (fun v _ _ _ _ i wr => ∃ (j : Nat) (acc : List Cs) (V : Option Addr) (c m : Nat), j ≤ n ∧ i = .int .i64 j ∧ v = .slice V m c ∧ m ≤ 40 ∧ Hid (acc.length = m ∧ wr.ownsRow w1.heap.size 49 3 (.slice V m c) m (caseC acc)) ∧ Hid (readR ((L.drop j).map (·.data.toList)) j acc = R) ∧ Below w1.heap.size w1 wr) (fun _ _ _ _ _ i _ => n - (intOf i).toNat)
    case atStart => exact ⟨0, [], none, 0, 0, by omega, rfl, rfl, by omega, ⟨rfl, World.ownsRow_nil _ _ _ _⟩, HBR.out.symm, Below.refl _ _⟩
    case round =>
      obtain ⟨j, acc, V, c, m, hj, rfl, rfl, hm, HO, HR, hbr⟩ := hrel
      have hzr := hbr.size
      have hbw := hb1.trans (hbr.mono hz1w)
      by_cases hjn : j < n
      · obtain ⟨x, hx⟩ : ∃ x, L[j]? = some x := ⟨_, List.getElem?_eq_getElem (by have := HN.out; omega)⟩
        have hcx : wr.cell? (ad.add j) = some (.string x) := by
          obtain ⟨ad', u, e1, e2, e3, e4⟩ := (HRD.out.below hbr).at_ hjn
          injection e1 with e1
          subst e1
          rw [List.getElem?_map, hx] at e3
          injection e3 with e3
          rw [e3]; exact e4
        have hxs : x.size ≤ 2000 := by
          have := HLS.out _ (List.mem_map.2 ⟨x, List.mem_of_getElem? hx, rfl⟩)
          rwa [size_list] at this
        have hxl := size_list x
        have hst := HR.out
        rw [drop_of hx, List.map_cons, readR] at hst
        have hji : (j : Int) < (n : Int) := by omega
        clear HR hx
        by_cases h0 : x.size = 0
        · have hnil : x.data.toList = [] := List.eq_nil_of_length_eq_zero (by omega)
          have hem : x.toList.isEmpty = true := by rw [ByteArray.toList_eq, hnil]; rfl
          rw [if_pos (.inl hnil)] at hst
          have HST := Lib.hid hst
          clear hst hnil
          go_wp2
          go_roundw
          case rel => exact ⟨j + 1, acc, V, c, m, by omega, by go_num, rfl, hm, HO, HST, hbr⟩
          case measure => simp [intOf]; omega
        · have hx0 : 0 < x.size := by omega
          have hbx := bt_of hx0
          have hem : x.toList.isEmpty = false := by
            rw [ByteArray.toList_eq]
            cases h : x.data.toList with
            | nil => rw [h] at hxl; simp at hxl; omega
            | cons => rfl
          by_cases h35 : bt x.data.toList 0 = 35
          · rw [if_pos (.inr h35)] at hst
            rw [h35] at hbx
            have HST := Lib.hid hst
            clear hst h35
            go_wp2
            go_roundw
            case rel => exact ⟨j + 1, acc, V, c, m, by omega, by go_num, rfl, hm, HO, HST, hbr⟩
            case measure => simp [intOf]; omega
          · have hns : ¬ skipL x.data.toList := by
              rintro (h | h)
              · rw [h] at hxl; simp at hxl; omega
              · exact h35 h
            rw [if_neg hns] at hst
            have hon := HON.out x hxs wr hbw
            generalize oneR x.data.toList = o at hst hon
            obtain ⟨⟨k, z, t⟩, ex⟩ := o
            simp only [Cs.vals] at hst hon
            have HNX := Lib.hid hon
            have h35b : ((bt x.data.toList 0 : Int) == 35) = false := by rw [beq_eq_false_iff_ne]; omega
            generalize bt x.data.toList 0 = b at hbx h35b
            have HST := Lib.hid hst
            clear hst hon hns h35
            go_wp2_with fail
            refine HNX.out.mono ?_
            rintro e w2 ⟨rfl, hb2⟩
            have hb12 := hbr.trans (hb2.mono hzr)
            have hO2 := own_below HO.out.2 hb2
            have hb3 := hb12.alloc hb12.size (.cells #[.int .i64 k, .int .i64 z, .string t] 49)
            have hO3 := hO2.alloc (.cells #[.int .i64 k, .int .i64 z, .string t] 49)
            have hx3 := Blk.new w2 49 #[.int .i64 k, .int .i64 z, .string t]
            have HO3 := Lib.hid hO3
            have HAL := Lib.hid HO.out.1
            clear hb2 hO2 hO3 hb12 HNX HO hcx hbw hbr
            go_upto_region 9 with fail
            generalize (w2.alloc (.cells #[.int .i64 k, .int .i64 z, .string t] 49)) = w3 at hb3 hx3 HO3 ⊢
            generalize w2.heap.size = xb at hx3 ⊢
            have hz3 := hb3.size
            have hbw3 := hb1.trans (hb3.mono hz1w)
            by_cases he : ex = 0
            · subst he
              rw [if_pos rfl] at HST
              by_cases h40 : m = 40
              · have hst := HST.out
                rw [if_pos (by rw [HAL.out]; exact h40)] at hst
                have HQ2 := Lib.hid (HQ.out [] ((j : Int) + 1) 2 0 w3 hbw3 hst.symm rfl none 0 ⟨rfl, fun h => by omega⟩)
                have hjw : IntKind.i64.wrap ((j : Int) + 1) = (j : Int) + 1 := by unfold IntKind.wrap IntKind.signed IntKind.bits; simp; omega
                subst h40
                clear hst HST HQ HO3 HAL
                go_wp2
                go_ret3
                exact HQ2.out
              · have hst := HST.out
                rw [if_neg (by rw [HAL.out]; exact h40)] at hst
                have HST2 := Lib.hid hst
                have h40b : ((m : Int) == 40) = false := by rw [beq_eq_false_iff_ne]; omega
                have hm39 : m + 1 ≤ 40 := by omega
                have x0 := hx3.cell 0
                have x1 := hx3.cell 1
                have x2 := hx3.cell 2
                clear hst HST h40
                go_wp2_with (at_builtin; refine wpList_append_own _ rfl _ _ _ rfl w1.heap.size 49 i0 _ 3 32 Tryd.underlying46 hi0 hz0 hz1 hz2 rfl (by decide) _ _ _ rfl (HO3.out.alloc _) ⟨w3.heap.size, 0, none⟩ 1 1 [.int .i64 k, .int .i64 z, .string t] rfl rfl (new_cellsB w3 49 [.int .i64 k, .int .i64 z, .string t]) (by simp [Value.oneCell']) (by unfold maxLen; omega) (by omega) (by simp; omega) ?_; intro v' w6 hown6 hgr6 _; obtain ⟨V6, c6, rfl⟩ := own_form hown6)
                have hb6 : Below w1.heap.size w1 w6 := below_app (hb3.alloc hz3 _) (HO3.out.alloc _) hgr6 (by simp; omega) (Nat.le_refl _)
                rw [show caseC acc ++ [.int .i64 k, .int .i64 z, .string t] = caseC (acc ++ [(k, z, t)]) by rw [caseC_snocB]; rfl] at hown6
                have HOO : Hid ((acc ++ [(k, z, t)]).length = m + 1 ∧ w6.ownsRow w1.heap.size 49 3 (.slice V6 (m + 1) c6) (m + 1) (caseC (acc ++ [(k, z, t)]))) := ⟨by rw [List.length_append, HAL.out]; rfl, hown6⟩
                clear hown6
                go_roundw
                case rel => exact ⟨j + 1, acc ++ [(k, z, t)], V6, c6, m + 1, by omega, by go_num, rfl, by omega, HOO, HST2, hb6⟩
                case measure => simp [intOf]; omega
            · have hst := HST.out
              rw [if_neg he] at hst
              have HQ2 := Lib.hid (HQ.out [] ((j : Int) + 1) ex 0 w3 hbw3 hst.symm rfl none 0 ⟨rfl, fun h => by omega⟩)
              have hjw : IntKind.i64.wrap ((j : Int) + 1) = (j : Int) + 1 := by unfold IntKind.wrap IntKind.signed IntKind.bits; simp; omega
              have he1 : (ex == 0) = false := by rw [beq_eq_false_iff_ne]; exact he
              have he2 : (ex != 0) = true := by rw [bne_iff_ne]; exact he
              clear hst HST HQ HO3 HAL he
              go_wp2
              go_ret3
              exact HQ2.out
      · obtain rfl : j = n := by omega
        have hst := HR.out
        rw [List.drop_of_length_le (by rw [HN.out]; omega), List.map_nil, readR] at hst
        have HQ2 := Lib.hid (HQ.out acc 0 0 m wr hbw hst.symm HO.out.1 V c (Reads.of_own HO.out.2))
        clear hst HR HQ HO
        go_wp2
        go_ret3
        exact HQ2.out
  · have hgt : (2000 : Int) < (s.size : Int) := by omega
    have HQ2 := Lib.hid (HQ.out [] 0 2 0 w (Below.refl _ _) (by unfold breadR; rw [if_pos (by omega)]) rfl none 0 ⟨rfl, fun h => by omega⟩)
    clear HQ
    go_enter Tryd.func22, Tryd.ntmps22
    go_wp2
    go_ret3
    exact HQ2.out
end Go.Proofs.YtndhbdbfjkmloaaDoor
