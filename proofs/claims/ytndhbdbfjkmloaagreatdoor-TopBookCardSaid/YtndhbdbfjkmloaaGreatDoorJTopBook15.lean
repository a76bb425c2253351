/- Books, walks: book.Read. Books, walks: book.Print; cases are compared; the laws BookBack and BookAgain. Within: a number made small. The walk of the law TopBook. The contract of strings.Cut, laid by the kit's shelf at this seat (wip/shelf.py writes this text anew for another seat). -/
import Derived.Test.YtndhbdbfjkmloaaGreatDoorJTopBook14
import Derived.Laws.StructEq
import Derived.BigQuiet
import Derived.Deep.QuietTactic
import Derived.Test.YtndhbdbfjkmloaaGreatDoorJTopBook0
import Derived.Test.YtndhbdbfjkmloaaGreatDoorProg
import Derived.Test.YtndhbdbfjkmloaaGreatDoorJTopBook4
import Derived.Test.YtndhbdbfjkmloaaGreatDoorJTopBook11
import Derived.Shelf.Small.Strs
import Derived.Shelf.Strconv.Atoi
import Derived.Shelf.Strconv.Itoa0
import Derived.Shelf.Strconv.Itoa1
import Derived.Shelf.LaysM
import Derived.Shelf.Strconv.Itoa2
import Derived.Shelf.Strconv.Itoa3
import Derived.Shelf.Strconv.AtoiErrFast
import Derived.Shelf.Strconv.ParseIntEmpty
import Derived.Shelf.Strconv.AtoiFail
import Derived.Shelf.Strconv.Clone
import Derived.Shelf.Strconv.SyntaxError
import Derived.Shelf.LaysC
import Derived.Shelf.Strconv.ToError
import Derived.Shelf.Strconv.Lower
import Derived.Shelf.Strconv.ParseUint10
import Derived.Shelf.Strconv.ParseUint10Empty
import Derived.Shelf.Strconv.ParseUint10Any
import Derived.Shelf.Strconv.ParseInt10
import Derived.Shelf.Strconv.AtoiLong
import Derived.Shelf.Strconv.AtoiInnerAll
import Derived.Shelf.Strconv.RangeError
import Derived.Shelf.Strconv.ToErrorRange
import Derived.Shelf.Strconv.AtoiAll
import Derived.Shelf.Strings.Search1
import Derived.Shelf.Strings.Search2
import Derived.Shelf.Strings.Search3
import Derived.Shelf.Strings.Cut
import Derived.Shelf.Strings.Count
import Derived.Shelf.Strings.Shaped
import Derived.Shelf.Strings.Split
import Derived.Shelf.Strings.SplitShaped
import Derived.Shelf.Unicode.DecodeSlow
import Derived.Shelf.Unicode.DecodeAny
namespace Go.Proofs.YtndhbdbfjkmloaaGreatDoor
open Go.RowKit

theorem add_offB (F i : Nat) : (⟨F, 0, none⟩ : Addr).add i = ⟨F, i, none⟩ := by
  cases i with
  | zero => rfl
  | succ i => simp [Addr.add]
theorem lines_size : ∀ (l x : List UInt8), x ∈ linesP l → x.length ≤ l.length
  | [], x, h => by
    rw [linesP, List.mem_singleton] at h
    subst h; simp
  | b :: l, x, h => by
    rw [linesP] at h
    split at h
    · rcases List.mem_cons.1 h with rfl | h
      · simp
      · have := lines_size l x h; simp; omega
    · split at h
      · rw [List.mem_singleton] at h; subst h; simp
      · rename_i y r hy
        rcases List.mem_cons.1 h with rfl | h
        · have := lines_size l y (by rw [hy]; simp); simp; omega
        · have := lines_size l x (by rw [hy]; simp [h]); simp; omega
theorem case_infoB : (Tryz.prog.info? 35).map (fun i => (i.zero, i.size, i.bytes)) = some (some (.agg #[.int .i64 0, .int .i64 0, .string ⟨#[]⟩]), 3, 32) := by kernel_rfl
theorem caseC_snocB (l : List Cs) (c : Cs) : caseC (l ++ [c]) = caseC l ++ c.vals := by simp [caseC]
theorem new_cellsB (w : World) (t : TypeId) (cs : List Value) : ∀ (j : Nat) (u : Value), cs[j]? = some u → (w.alloc (.cells cs.toArray t)).cell? ((⟨w.heap.size, 0, none⟩ : Addr).add j) = some u := by
  intro j u h
  have hb : Blk (w.alloc (.cells cs.toArray t)) w.heap.size t cs.toArray := blk_at rfl
  rw [add_offB, hb.cell]
  simpa using h
/-- what strings.Split gives -/
theorem split_any (s : ByteArray) (hs : s.size ≤ 2000) (w : World) (hM : MaxP w) : Calls Tryz.prog 19 #[.string s, .string ⟨#[10]⟩] w fun e w' =>
    ∃ (ad : Addr) (n : Nat) (L : List ByteArray), e = .returned (.slice (some ad) n n) ∧ L.map (·.data.toList) = linesP s.data.toList ∧ L.length = n ∧ n ≤ 2001 ∧ Reads w' w'.heap.size 1 (some ad) n (L.map Value.string) ∧ Below w.heap.size w w' := by
  obtain ⟨m, hm⟩ := hM
  refine (sh_strings_Split s ⟨#[10]⟩ m w (by omega) hm (by decide)).mono fun e w' ⟨he, hw⟩ => ?_
  have hl := Lib.splitB_all ⟨#[10]⟩ (by decide) 0 _ s rfl
  have hc := Lib.countB_le ⟨#[10]⟩ (by decide) s.size s (Nat.le_refl _)
  refine ⟨⟨w.heap.size, 0, none⟩, _, _, he, split_is s, hl, by omega, ⟨by rw [List.length_map, hl, Nat.mul_one], fun _ => ⟨_, rfl, by rw [hw]; simp, fun j u hu => ?_⟩⟩, by rw [hw]; exact (Below.refl _ w).alloc (Nat.le_refl _) _⟩
  have hb : Blk w' w.heap.size 9 ((Lib.splitB ⟨#[10]⟩ 0 (Lib.countB s ⟨#[10]⟩) s).map Value.string).toArray := by rw [hw]; exact blk_at rfl
  rw [add_offB, hb.cell, ← hu]
  simp
/-- what book.Read answers -/
def BReadQ (r : List Cs × Int × Int) (w : World) (e : Ending) (w' : World) : Prop := Below w.heap.size w w' ∧ ∃ V c, e = .returned (.tuple #[.slice V r.1.length c, .int .i64 r.2.1, .int .i64 r.2.2]) ∧ Reads w' w'.heap.size 3 V r.1.length (caseC r.1)

set_option maxRecDepth 100000 in
set_option maxHeartbeats 4000000 in
theorem bread_any (s : ByteArray) (w : World) (hT : LibP w) : Calls Tryz.prog 10 #[.string s] w (BReadQ (breadR s.data.toList) w) := by
  obtain ⟨i0, hi0, hz0, hz1, hz2⟩ := info_parts case_infoB
  have HSP := Lib.hid (fun (h : s.size ≤ 2000) => split_any s h w hT.max)
  have HON := Lib.hid (fun (x : ByteArray) (hx : x.size ≤ 2000) (W : World) (hW : Below w.heap.size w W) => bone_any x hx W (hT.on hW))
  have HQ : Hid (∀ (l : List Cs) (p x : Int) (n : Nat) (W : World), Below w.heap.size w W → breadR s.data.toList = (l, p, x) → l.length = n → ∀ V c, Reads W W.heap.size 3 V n (caseC l) → BReadQ (breadR s.data.toList) w (.returned (.tuple #[.slice V n c, .int .i64 p, .int .i64 x])) W) := fun l p x n W hW hr hn V c hR => by rw [hr]; subst hn; exact ⟨hW, V, c, rfl, hR⟩
  generalize BReadQ (breadR s.data.toList) w = Q at HQ ⊢
  have hsl := size_list s
  by_cases hs : s.size ≤ 2000
  · have hgt : ¬ (2000 : Int) < (s.size : Int) := by omega
    have HBR : Hid (breadR s.data.toList = readR (linesP s.data.toList) 0 []) := by show _ = _; unfold breadR; rw [if_neg (by omega)]
    have HLS : Hid (∀ x ∈ linesP s.data.toList, x.length ≤ 2000) := fun x hx => by have := lines_size _ x hx; omega
    generalize breadR s.data.toList = R at HBR HQ
    clear hT
    go_enter Tryz.func10, Tryz.ntmps10
    go_wp2_with fail
    refine (HSP.out hs).mono ?_
    rintro e w1 ⟨ad, n, L, rfl, hL, hn, hn2, hRd, hb1⟩
    have hz1w := hb1.size
    rw [← hL] at HBR HLS
    have had : ad.block < w1.heap.size := by
      have hp : 0 < n := by
        rcases Nat.eq_zero_or_pos n with h | h
        · rw [h] at hn
          have : L = [] := List.eq_nil_of_length_eq_zero hn
          rw [this] at hL
          exact absurd hL.symm (linesP_ne _)
        · exact h
      obtain ⟨ad', e1, e2, _⟩ := hRd.lies hp
      injection e1 with e1
      subst e1
      exact e2
    have HRD := Lib.hid hRd
    have HN := Lib.hid hn
    clear hL hRd HSP hn
    go_wp2
    go_loopw [5, 6, 7, 8, 9, 16] (fun v _ _ _ _ i wr => ∃ (j : Nat) (acc : List Cs) (V : Option Addr) (c m : Nat), j ≤ n ∧ i = .int .i64 j ∧ v = .slice V m c ∧ m ≤ 40 ∧ Hid (acc.length = m ∧ wr.ownsRow w1.heap.size 35 3 (.slice V m c) m (caseC acc)) ∧ Hid (readR ((L.drop j).map (·.data.toList)) j acc = R) ∧ Below w1.heap.size w1 wr) (fun _ _ _ _ _ i _ => n - (intOf i).toNat)
    case atStart => exact ⟨0, [], none, 0, 0, by omega, rfl, rfl, by omega, ⟨rfl, World.ownsRow_nil _ _ _ _⟩, HBR.out.symm, Below.refl _ _⟩
    case round =>
      obtain ⟨j, acc, V, c, m, hj, rfl, rfl, hm, HO, HR, hbr⟩ := hrel
      have hzr := hbr.size
      have hbw := hb1.trans (hbr.mono hz1w)
      by_cases hjn : j < n
      · obtain ⟨x, hx⟩ : ∃ x, L[j]? = some x := ⟨_, List.getElem?_eq_getElem (by have := HN.out; omega)⟩
        have hcx : wr.cell? (ad.add j) = some (.string x) := by
          obtain ⟨ad', u, e1, e2, e3, e4⟩ := (HRD.out.below hbr).at_ hjn
          injection e1 with e1
          subst e1
          rw [List.getElem?_map, hx] at e3
          injection e3 with e3
          rw [e3]; exact e4
        have hxs : x.size ≤ 2000 := by
          have := HLS.out _ (List.mem_map.2 ⟨x, List.mem_of_getElem? hx, rfl⟩)
          rwa [size_list] at this
        have hxl := size_list x
        have hst := HR.out
        rw [drop_of hx, List.map_cons, readR] at hst
        have hji : (j : Int) < (n : Int) := by omega
        clear HR hx
        by_cases h0 : x.size = 0
        · have hnil : x.data.toList = [] := List.eq_nil_of_length_eq_zero (by omega)
          have hem : x.toList.isEmpty = true := by rw [ByteArray.toList_eq, hnil]; rfl
          rw [if_pos (.inl hnil)] at hst
          have HST := Lib.hid hst
          clear hst hnil
          go_wp2
          go_roundw
          case rel => exact ⟨j + 1, acc, V, c, m, by omega, by go_num, rfl, hm, HO, HST, hbr⟩
          case measure => simp [intOf]; omega
        · have hx0 : 0 < x.size := by omega
          have hbx := bt_of hx0
          have hem : x.toList.isEmpty = false := by
            rw [ByteArray.toList_eq]
            cases h : x.data.toList with
            | nil => rw [h] at hxl; simp at hxl; omega
            | cons => rfl
          by_cases h35 : bt x.data.toList 0 = 35
          · rw [if_pos (.inr h35)] at hst
            rw [h35] at hbx
            have HST := Lib.hid hst
            clear hst h35
            go_wp2
            go_roundw
            case rel => exact ⟨j + 1, acc, V, c, m, by omega, by go_num, rfl, hm, HO, HST, hbr⟩
            case measure => simp [intOf]; omega
          · have hns : ¬ skipL x.data.toList := by
              rintro (h | h)
              · rw [h] at hxl; simp at hxl; omega
              · exact h35 h
            rw [if_neg hns] at hst
            have hon := HON.out x hxs wr hbw
            generalize oneR x.data.toList = o at hst hon
            obtain ⟨⟨k, z, t⟩, ex⟩ := o
            simp only [Cs.vals] at hst hon
            have HNX := Lib.hid hon
            have h35b : ((bt x.data.toList 0 : Int) == 35) = false := by rw [beq_eq_false_iff_ne]; omega
            generalize bt x.data.toList 0 = b at hbx h35b
            have HST := Lib.hid hst
            clear hst hon hns h35
            go_wp2_with fail
            refine HNX.out.mono ?_
            rintro e w2 ⟨rfl, hb2⟩
            have hb12 := hbr.trans (hb2.mono hzr)
            have hO2 := own_below HO.out.2 hb2
            have hb3 := hb12.alloc hb12.size (.cells #[.int .i64 k, .int .i64 z, .string t] 35)
            have hO3 := hO2.alloc (.cells #[.int .i64 k, .int .i64 z, .string t] 35)
            have hx3 := Blk.new w2 35 #[.int .i64 k, .int .i64 z, .string t]
            have HO3 := Lib.hid hO3
            have HAL := Lib.hid HO.out.1
            clear hb2 hO2 hO3 hb12 HNX HO hcx hbw hbr
            go_upto_region 9 with fail
            generalize (w2.alloc (.cells #[.int .i64 k, .int .i64 z, .string t] 35)) = w3 at hb3 hx3 HO3 ⊢
            generalize w2.heap.size = xb at hx3 ⊢
            have hz3 := hb3.size
            have hbw3 := hb1.trans (hb3.mono hz1w)
            by_cases he : ex = 0
            · subst he
              rw [if_pos rfl] at HST
              by_cases h40 : m = 40
              · have hst := HST.out
                rw [if_pos (by rw [HAL.out]; exact h40)] at hst
                have HQ2 := Lib.hid (HQ.out [] ((j : Int) + 1) 2 0 w3 hbw3 hst.symm rfl none 0 ⟨rfl, fun h => by omega⟩)
                have hjw : IntKind.i64.wrap ((j : Int) + 1) = (j : Int) + 1 := by unfold IntKind.wrap IntKind.signed IntKind.bits; simp; omega
                subst h40
                clear hst HST HQ HO3 HAL
                go_wp2
                go_ret3
                exact HQ2.out
              · have hst := HST.out
                rw [if_neg (by rw [HAL.out]; exact h40)] at hst
                have HST2 := Lib.hid hst
                have h40b : ((m : Int) == 40) = false := by rw [beq_eq_false_iff_ne]; omega
                have hm39 : m + 1 ≤ 40 := by omega
                have x0 := hx3.cell 0
                have x1 := hx3.cell 1
                have x2 := hx3.cell 2
                clear hst HST h40
                go_wp2_with (at_builtin; refine wpList_append_own _ rfl _ _ _ rfl w1.heap.size 35 i0 _ 3 32 Tryz.underlying28 hi0 hz0 hz1 hz2 rfl (by decide) _ _ _ rfl (HO3.out.alloc _) ⟨w3.heap.size, 0, none⟩ 1 1 [.int .i64 k, .int .i64 z, .string t] rfl rfl (new_cellsB w3 35 [.int .i64 k, .int .i64 z, .string t]) (by simp [Value.oneCell']) (by unfold maxLen; omega) (by omega) (by simp; omega) ?_; intro v' w6 hown6 hgr6 _; obtain ⟨V6, c6, rfl⟩ := own_form hown6)
                have hb6 : Below w1.heap.size w1 w6 := below_app (hb3.alloc hz3 _) (HO3.out.alloc _) hgr6 (by simp; omega) (Nat.le_refl _)
                rw [show caseC acc ++ [.int .i64 k, .int .i64 z, .string t] = caseC (acc ++ [(k, z, t)]) by rw [caseC_snocB]; rfl] at hown6
                have HOO : Hid ((acc ++ [(k, z, t)]).length = m + 1 ∧ w6.ownsRow w1.heap.size 35 3 (.slice V6 (m + 1) c6) (m + 1) (caseC (acc ++ [(k, z, t)]))) := ⟨by rw [List.length_append, HAL.out]; rfl, hown6⟩
                clear hown6
                go_roundw
                case rel => exact ⟨j + 1, acc ++ [(k, z, t)], V6, c6, m + 1, by omega, by go_num, rfl, by omega, HOO, HST2, hb6⟩
                case measure => simp [intOf]; omega
            · have hst := HST.out
              rw [if_neg he] at hst
              have HQ2 := Lib.hid (HQ.out [] ((j : Int) + 1) ex 0 w3 hbw3 hst.symm rfl none 0 ⟨rfl, fun h => by omega⟩)
              have hjw : IntKind.i64.wrap ((j : Int) + 1) = (j : Int) + 1 := by unfold IntKind.wrap IntKind.signed IntKind.bits; simp; omega
              have he1 : (ex == 0) = false := by rw [beq_eq_false_iff_ne]; exact he
              have he2 : (ex != 0) = true := by rw [bne_iff_ne]; exact he
              clear hst HST HQ HO3 HAL he
              go_wp2
              go_ret3
              exact HQ2.out
      · obtain rfl : j = n := by omega
        have hst := HR.out
        rw [List.drop_of_length_le (by rw [HN.out]; omega), List.map_nil, readR] at hst
        have HQ2 := Lib.hid (HQ.out acc 0 0 m wr hbw hst.symm HO.out.1 V c (Reads.of_own HO.out.2))
        clear hst HR HQ HO
        go_wp2
        go_ret3
        exact HQ2.out
  · have hgt : (2000 : Int) < (s.size : Int) := by omega
    have HQ2 := Lib.hid (HQ.out [] 0 2 0 w (Below.refl _ _) (by unfold breadR; rw [if_pos (by omega)]) rfl none 0 ⟨rfl, fun h => by omega⟩)
    clear HQ
    go_enter Tryz.func10, Tryz.ntmps10
    go_wp2
    go_ret3
    exact HQ2.out
end Go.Proofs.YtndhbdbfjkmloaaGreatDoor
namespace Go.Proofs.YtndhbdbfjkmloaaGreatDoor
open Go.RowKit

theorem litL_len (l : List UInt8) : (litL l).length ≤ 4 * l.length + 2 := by
  have := encAll_len false l
  unfold litL
  simp
  omega
theorem lineC_len {c : Cs} (h : fitC c = 0) : (lineC c).length ≤ 270 := by
  have h60 := fit_60x h
  have h1 := litL_len c.2.2.data.toList
  rw [size_list] at h1
  have h2 : (headC c.1 c.2.1).length ≤ 17 := by
    obtain ⟨k, m, t⟩ := c
    unfold headC
    simp only
    split
    · decide
    · split
      · decide
      · rcases fit_kindx h with ⟨rfl, _⟩ | ⟨rfl, _⟩ | ⟨_, h0, h1⟩
        · contradiction
        · contradiction
        · have := itoa_nine h0 (by omega)
          simp [wdP]
          omega
  unfold lineC
  rw [List.length_append]
  omega
theorem bookL_len : ∀ {l : List Cs}, (∀ c ∈ l, fitC c = 0) → (bookL l).length ≤ 271 * l.length
  | [], _ => by simp [bookL]
  | c :: l, h => by
    have h1 := lineC_len (h c (by simp))
    have h2 := bookL_len (l := l) fun x hx => h x (by simp [hx])
    rw [show bookL (c :: l) = lineC c ++ [10] ++ bookL l by simp [bookL], List.length_append, List.length_append]
    simp only [List.length_cons, List.length_nil]
    omega
theorem bytes_ofB {u : ByteArray} {l : List UInt8} (h : u.data.toList = l) : u = ⟨l.toArray⟩ := by
  obtain ⟨u⟩ := u
  congr 1
  rw [← h]
/-- what book.Print answers -/
def BPrV (l : List Cs) : Value := if bchkC l = 0 then .tuple #[.string ⟨(bookL l).toArray⟩, .int .i64 0] else .tuple #[.string ⟨#[]⟩, .int .i64 (bchkC l)]
set_option maxRecDepth 100000 in
set_option maxHeartbeats 8000000 in
theorem bprint_any {l : List Cs} {A : Option Addr} {n c : Nat} {w : World} (h : Reads w w.heap.size 3 A n (caseC l)) (hl : l.length = n) (hT : LibP w) : Calls Tryz.prog 9 #[.slice A n c] w fun e w' => e = .returned (BPrV l) ∧ Below w.heap.size w w' := by
  have hck := bcheck_any (c := c) h hl
  unfold BPrV
  by_cases h0 : bchkC l = 0
  · have hft : (∀ x ∈ l, fitC x = 0) ∧ n ≤ 40 := by
      unfold bchkC at h0
      split at h0
      · cases h0
      · exact ⟨chk_fitx h0, by omega⟩
    rw [h0] at hck
    rw [if_pos h0]
    have HCK := Lib.hid hck
    have HFT := Lib.hid hft.1
    have hn40 := hft.2
    have HL := Lib.hid hl
    have HR := Lib.hid h
    have HE : Hid (∀ (u : ByteArray) (W : World), u.data.toList = bookL l → Below w.heap.size w W → ((Ending.returned (.tuple #[.string u, .int .i64 0])) = .returned (.tuple #[.string ⟨(bookL l).toArray⟩, .int .i64 0]) ∧ Below w.heap.size w W)) := fun u W hu hW => ⟨by rw [bytes_ofB hu], hW⟩
    have HDC := Lib.hid (fun (z : Int) (hz : I64 z) (W : World) (hW : Below w.heap.size w W) => qdec_all z hz W (hT.on hW).pow)
    have HLI := Lib.hid (fun (t : ByteArray) (ht : t.size ≤ 60) (W : World) => lit_any t W (by omega))
    generalize hQ : (fun e w' => e = Ending.returned (.tuple #[.string ⟨(bookL l).toArray⟩, .int .i64 0]) ∧ Below w.heap.size w w') = Q
    have HQ : Hid (∀ (u : ByteArray) (W : World), u.data.toList = bookL l → Below w.heap.size w W → Q (.returned (.tuple #[.string u, .int .i64 0])) W) := fun u W hu hW => by rw [← hQ]; exact HE.out u W hu hW
    clear hck hft h hl hT h0 hQ HE
    go_enter Tryz.func9, Tryz.ntmps9
    go_wp2_with fail
    refine HCK.out.mono ?_
    rintro e w1 ⟨rfl, hb1⟩
    go_wp2
    go_loopw [5, 7, 15] (fun o _ i wr => ∃ (j : Nat) (u : ByteArray), j ≤ n ∧ i = .int .i64 j ∧ o = .string u ∧ u.size ≤ 271 * j ∧ Hid (u.data.toList = bookL (l.take j)) ∧ Below w.heap.size w wr) (fun _ _ i _ => n - (intOf i).toNat)
    case atStart => exact ⟨0, ⟨#[]⟩, by omega, rfl, rfl, by simp [ByteArray.size], rfl, hb1⟩
    case round =>
      obtain ⟨j, u, hj, rfl, rfl, hus, HU, hbr⟩ := hrel
      have hzr := hbr.size
      by_cases hjn : j < n
      · obtain ⟨ad, k, m, t, rfl, hab, hg, e0, e1, e2⟩ := reads_case (HR.out.below hbr) hjn
        have hfx := HFT.out _ (List.mem_of_getElem? hg)
        have ht60 := fit_60x hfx
        simp only at ht60
        have hll := lineC_len hfx
        have had : ad.block < wr.heap.size := by omega
        have hji : (j : Int) < (n : Int) := by omega
        have HNX : Hid (∀ (v : ByteArray), v.data.toList = u.data.toList ++ (headC k m ++ litL t.data.toList ++ [10]) → v.data.toList = bookL (l.take (j + 1)) ∧ v.size ≤ 271 * (j + 1)) := fun v hv => by
          have h1 : v.data.toList = bookL (l.take (j + 1)) := by rw [hv, HU.out, take_succ_of hg, bookL_snoc]; rfl
          refine ⟨h1, ?_⟩
          have h2 := bookL_len (l := l.take (j + 1)) fun x hx => HFT.out x (List.mem_of_mem_take hx)
          rw [← h1, size_list, List.length_take] at h2
          have : min (j + 1) l.length ≤ j + 1 := Nat.min_le_left _ _
          calc v.size ≤ _ := h2
            _ ≤ _ := Nat.mul_le_mul_left _ this
        have hk := fit_kindx hfx
        have hll2 : (litL t.data.toList).length ≤ 242 := by have := litL_len t.data.toList; rw [size_list] at this; omega
        clear hfx hg hll HU
        rcases hk with ⟨rfl, rfl⟩ | ⟨rfl, rfl⟩ | ⟨rfl, hm0, hm60⟩
        · skip
          go_wp2_with fail
          refine (HLI.out t ht60 _).mono ?_
          rintro e w3 ⟨⟨L, rfl, hL⟩, hb3⟩
          have hb4 := (hbr.alloc hzr _).trans (hb3.mono (by simp; omega))
          have hLs : L.size ≤ 242 := by rw [← size_list, hL]; exact hll2
          have hv := HNX.out ((u ++ ⟨#[97, 99, 99, 101, 112, 116, 32]⟩) ++ (L ++ ⟨#[10]⟩)) (by rw [app_data, app_data, app_data, hL]; unfold headC; simp [wdA])
          have HV := Lib.hid hv
          clear hv hL HNX e0 e1 e2
          go_wp2
          go_roundw
          case rel => exact ⟨j + 1, _, by omega, by go_num, rfl, HV.out.2, HV.out.1, hb4⟩
          case measure => simp [intOf]; omega
        · skip
          go_wp2_with fail
          refine (HLI.out t ht60 _).mono ?_
          rintro e w3 ⟨⟨L, rfl, hL⟩, hb3⟩
          have hb4 := (hbr.alloc hzr _).trans (hb3.mono (by simp; omega))
          have hLs : L.size ≤ 242 := by rw [← size_list, hL]; exact hll2
          have hv := HNX.out ((u ++ ⟨#[114, 101, 106, 101, 99, 116, 32]⟩) ++ (L ++ ⟨#[10]⟩)) (by rw [app_data, app_data, app_data, hL]; unfold headC; simp [wdR])
          have HV := Lib.hid hv
          clear hv hL HNX e0 e1 e2
          go_wp2
          go_roundw
          case rel => exact ⟨j + 1, _, by omega, by go_num, rfl, HV.out.2, HV.out.1, hb4⟩
          case measure => simp [intOf]; omega
        · have hdz := fun W hW => HDC.out m ⟨by omega, by omega⟩ W hW
          have hd9 : (itoaB m).size ≤ 9 := by rw [itoaB_size]; exact itoa_nine hm0 (by omega)
          have HDA : Hid ((itoaB m).data.toList = Lib.itoa m) := rfl
          generalize itoaB m = D at hdz hd9 HDA
          have HDZ := Lib.hid hdz
          clear hdz
          have hbx := hbr.alloc hzr (.cells #[.int .i64 4, .int .i64 m, .string t] 35)
          have hxx := Blk.new wr 35 #[.int .i64 4, .int .i64 m, .string t]
          go_upto_region 8 with fail
          generalize (wr.alloc (.cells #[.int .i64 4, .int .i64 m, .string t] 35)) = wx at hbx hxx ⊢
          generalize wr.heap.size = xb at hxx ⊢
          have q0 := hxx.cell 0
          have q1 := hxx.cell 1
          have q2 := hxx.cell 2
          clear e0 e1 e2
          go_wp2_with fail
          refine (HDZ.out _ hbx).mono ?_
          rintro e w2 ⟨rfl, hb2⟩
          have hx2 := hxx.below hb2 hxx.lt
          have hbx2 := hbx.trans (hb2.mono hbx.size)
          have q0 := hx2.cell 0
          have q1 := hx2.cell 1
          have q2 := hx2.cell 2
          clear hb2 hbx hxx
          go_wp2_with fail
          refine (HLI.out t ht60 _).mono ?_
          rintro e w3 ⟨⟨L, rfl, hL⟩, hb3⟩
          have hb4 := hbx2.trans (hb3.mono hbx2.size)
          have hLs : L.size ≤ 242 := by rw [← size_list, hL]; exact hll2
          have hv := HNX.out ((u ++ ((⟨#[112, 114, 101, 102, 105, 120, 32]⟩ ++ D) ++ ⟨#[32]⟩)) ++ (L ++ ⟨#[10]⟩)) (by rw [app_data, app_data, app_data, app_data, app_data, hL, HDA.out]; unfold headC; simp [wdP])
          have HV := Lib.hid hv
          clear hv hL HNX q0 q1 q2 hx2
          go_wp2
          go_roundw
          case rel => exact ⟨j + 1, _, by omega, by go_num, rfl, HV.out.2, HV.out.1, hb4⟩
          case measure => simp [intOf]; omega
      · obtain rfl : j = n := by omega
        have HU2 : Hid (u.data.toList = bookL l) := by have := HU.out; rw [List.take_of_length_le (by rw [HL.out]; omega)] at this; exact this
        go_wp2
        exact HQ.out _ _ HU2.out hbr
  · rw [if_neg h0]
    have HCK := Lib.hid hck
    have hne : (bchkC l != 0) = true := bne_iff_ne.2 h0
    generalize bchkC l = x at hne HCK
    clear hck h0 hT h hl
    go_enter Tryz.func9, Tryz.ntmps9
    go_wp2_with fail
    refine HCK.out.mono ?_
    rintro e w1 ⟨rfl, hb1⟩
    go_wp2
    go_ret2
    exact ⟨rfl, hb1⟩

end Go.Proofs.YtndhbdbfjkmloaaGreatDoor
namespace Go.Proofs.YtndhbdbfjkmloaaGreatDoor
open Go.RowKit

theorem wrap_i64w (n : Int) (h1 : -9223372036854775808 ≤ n) (h2 : n ≤ 9223372036854775807) : IntKind.i64.wrap n = n := by
  unfold IntKind.wrap IntKind.signed IntKind.bits
  simp
  omega
/-- what Within answers -/
def wiN (k : Int) (n : Nat) : Nat := ((k % 18446744073709551616) % n).toNat
theorem wiN_lt (k : Int) {n : Nat} (h : 0 < n) : wiN k n < n := by
  unfold wiN
  have := Int.emod_lt_of_pos (k % 18446744073709551616) (show (0 : Int) < n by omega)
  omega
set_option maxRecDepth 100000 in
theorem within_any (k : Int) (n : Nat) (h1 : 0 < n) (h2 : n < 9223372036854775807) (w : World) : Calls Tryz.prog 4 #[.int .i64 k, .int .i64 n] w fun e w' => e = .returned (.int .i64 (wiN k n)) ∧ Below w.heap.size w w' := by
  have hlt := wiN_lt k h1
  have hw1 : IntKind.u64.wrap k = k % 18446744073709551616 := by rw [IntKind.wrap_u64]
  have hw2 : IntKind.u64.wrap (n : Int) = (n : Int) := by rw [IntKind.wrap_u64]; omega
  have hk0 : 0 ≤ k % 18446744073709551616 := Int.emod_nonneg _ (by omega)
  have hr : (k % 18446744073709551616).tmod (n : Int) = (wiN k n : Int) := by
    rw [Int.tmod_eq_emod_of_nonneg hk0]
    unfold wiN
    have := Int.emod_nonneg (k % 18446744073709551616) (show (n : Int) ≠ 0 by omega)
    omega
  generalize wiN k n = j at hlt hr ⊢
  generalize k % 18446744073709551616 = y at hw1 hk0 hr
  have hn0 : ((n : Int) == 0) = false := by rw [beq_eq_false_iff_ne]; omega
  have hn1 : ¬ ((n : Int) = 0) := by omega
  have hw3 : IntKind.i64.wrap (j : Int) = (j : Int) := wrap_i64w _ (by omega) (by omega)
  have hw4 : IntKind.u64.wrap (j : Int) = (j : Int) := by rw [IntKind.wrap_u64]; omega
  go_enter Tryz.func4, Tryz.ntmps4
  go_wp2
  go_ret
  exact ⟨by simp_all, (by repeat (first | exact Below.refl _ _ | assumption | refine Below.drew ?_ | refine below_drewN ?_ _ | refine Below.alloc ?_ (by first | omega | (simp; omega) | simp) _ | refine Below.setCell ?_ (by first | omega | (simp; omega) | simp) _))⟩
end Go.Proofs.YtndhbdbfjkmloaaGreatDoor
namespace Go.Proofs.YtndhbdbfjkmloaaGreatDoor
open Go.RowKit Go.Maps

/-- at most two bytes of an alphabet -/
def smB (a : ByteArray) : ByteArray := a.extract 0 (min a.size 2)
theorem smB_size (a : ByteArray) : (smB a).size ≤ 2 := by simp [smB]; omega
theorem slice_toB (s : ByteArray) (k : IntKind) (r : Nat) (j : Int) (hj : j = r) (h2 : r ≤ s.size) (w : World) :
    (Instr.slice 9 (.string s) none (some (.int k j)) none).run Tryz.prog w = .ok (.string (s.extract 0 r)) w := by
  subst hj
  have hu := Tryz.underlying9
  simp [Instr.slice, run_underlying hu, Instr.sliceBounds, go_sem, h2]
/-- the book of texts, as they are -/
noncomputable def casesT (g : List Rl) (L : List ByteArray) : List Cs := L.map fun s => ((if accG g s = true then (1 : Int) else 2), (0 : Int), s)
theorem casesT_len (g : List Rl) (L : List ByteArray) : (casesT g L).length = L.length := by simp [casesT]
theorem casesT_snoc {g : List Rl} {L : List ByteArray} {j : Nat} {s : ByteArray} {y : Bool} {k : Int} (h : L[j]? = some s) (hy : accG g s = y) (hk : (if y = true then (1 : Int) else 2) = k) : caseC (casesT g (L.take j)) ++ [.int .i64 k, .int .i64 0, .string s] = caseC (casesT g (L.take (j + 1))) := by
  rw [take_succ_of h, casesT, casesT, List.map_append]
  simp only [List.map_cons, List.map_nil, hy, hk]
  rw [caseC_snocB]
  rfl
theorem casesT_get {g : List Rl} {L : List ByteArray} {j : Nat} {s : ByteArray} (h : L[j]? = some s) : (casesT g L)[j]? = some ((if accG g s = true then (1 : Int) else 2), (0 : Int), s) := by simp [casesT, h]
theorem casesT_fit {g : List Rl} {L : List ByteArray} (h : ∀ x ∈ L, x.size ≤ 4) : ∀ c ∈ casesT g L, fitC c = 0 := by
  intro c hc
  obtain ⟨s, hs, rfl⟩ := List.mem_map.1 hc
  have := h s hs
  cases accG g s
  · simp [fitC]; omega
  · simp [fitC]; omega
theorem casesT_ok {g : List Rl} {L : List ByteArray} (h : ∀ x ∈ L, x.size ≤ 4) (hl : L.length ≤ 31) : bchkC (casesT g L) = 0 := by
  unfold bchkC
  rw [if_neg (by rw [casesT_len]; omega)]
  exact chk_allx (casesT_fit h)
theorem casesT_text {g : List Rl} : ∀ {L : List ByteArray}, (∀ x ∈ L, x.size ≤ 4) → (bookL (casesT g L)).length ≤ 26 * L.length
  | [], _ => by simp [bookL, casesT]
  | s :: L, h => by
    have h1 := casesT_text (g := g) (L := L) fun x hx => h x (by simp [hx])
    have h2 := h s (by simp)
    have h3 := litL_len s.data.toList
    rw [size_list] at h3
    have h4 : ∀ k : Int, k = 1 ∨ k = 2 → (headC k 0).length ≤ 7 := by
      rintro k (rfl | rfl) <;> decide
    have h5 : (headC (if accG g s = true then (1 : Int) else 2) 0).length ≤ 7 := h4 _ (by split <;> simp)
    rw [show bookL (casesT g (s :: L)) = (headC (if accG g s = true then (1 : Int) else 2) 0 ++ litL s.data.toList) ++ [10] ++ bookL (casesT g L) by simp [bookL, casesT, lineC], List.length_append, List.length_append, List.length_append]
    simp only [List.length_cons, List.length_nil]
    omega
theorem casesT_tell (g h : List Rl) (s : ByteArray) : tellB h ((if accG g s = true then (1 : Int) else 2), (0 : Int), s) = (accG h s == accG g s) := by
  unfold tellB
  cases accG g s <;> simp
theorem casesT_self {g : List Rl} {L : List ByteArray} : ∀ z ∈ (casesT g L).map (tellB g), z = true := by
  intro z hz
  obtain ⟨c, hc, rfl⟩ := List.mem_map.1 hz
  obtain ⟨s, _, rfl⟩ := List.mem_map.1 hc
  rw [casesT_tell]
  simp
theorem casesT_at {g h : List Rl} {L : List ByteArray} {w : World} {B m j : Nat} {V : Option Addr} {s : ByteArray} (hr : Reads w B 1 V m (bools ((casesT g L).map (tellB h)))) (hj : j < m) (hs : L[j]? = some s) : ∃ ad : Addr, V = some ad ∧ ad.block < B ∧ w.cell? (ad.add j) = some (.bool (accG h s == accG g s)) := by
  obtain ⟨ad, z, hA, hb, hg, hc⟩ := reads_bool hr hj
  rw [List.getElem?_map, casesT_get hs] at hg
  injection hg with hg
  rw [casesT_tell] at hg
  exact ⟨ad, hA, hb, by rw [hg]; exact hc⟩

set_option maxRecDepth 100000 in
set_option maxHeartbeats 8000000 in
theorem walk_TopBook {g h : List Rl} {A A' : Option Addr} {cp cp' : Nat} {row row' : Nat → List Value} (a : ByteArray) (n : Int) (w : World) (hg : GrIs w w.heap.size g A cp row) (hwg : ∀ r ∈ g, WfE r.2) (hh : GrIs w w.heap.size h A' cp' row') (hwh : ∀ r ∈ h, WfE r.2) (hT : LibP w) :
    Calls Tryz.prog 3 #[.agg #[.slice A g.length cp], .agg #[.slice A' h.length cp'], .string a, .int .i64 n] w fun e w' => e = .returned (.bool true) ∧ Below w.heap.size w w' := by
  have HWI := Lib.hid (fun W => within_any n 5 (by decide) (by decide) W)
  have hk5 : wiN n 5 < 5 := wiN_lt n (by decide)
  have hs2 := smB_size a
  have HBG := Lib.hid begun1_any
  obtain ⟨i0, hi0, hz0, hz1, hz2⟩ := info_parts case_infoB
  obtain ⟨k, hk⟩ : ∃ k, wiN n 5 = k := ⟨_, rfl⟩
  rw [hk] at HWI hk5
  have HRG := Lib.hid (fun (a' : ByteArray) (ha : a'.size ≤ 2) (W : World) (hW : Below w.heap.size w W) => right_any (hg.grow hW) a' k (by omega) (by unfold I64; omega))
  have HRH := Lib.hid (fun (a' : ByteArray) (ha : a'.size ≤ 2) (W : World) (hW : Below w.heap.size w W) => right_any (hh.grow hW) a' k (by omega) (by unfold I64; omega))
  have HWD := Lib.hid (fun (a' : ByteArray) (h1 : 1 ≤ a'.size) (h2 : a'.size ≤ 2) (W : World) => words_any a' k h1 h2 (by omega) W)
  have HAG := Lib.hid (fun (s : ByteArray) (W : World) (hW : Below w.heap.size w W) => acc_any (hg.grow hW) hwg s)
  have HAH := Lib.hid (fun (s : ByteArray) (W : World) (hW : Below w.heap.size w W) => acc_any (hh.grow hW) hwh s)
  have HPR := Lib.hid (fun (l : List Cs) (W : World) (hW : Below w.heap.size w W) (V : Option Addr) (m c : Nat) (hr : Reads W W.heap.size 3 V m (caseC l)) (hl : l.length = m) => bprint_any (c := c) hr hl (hT.on hW))
  have HRD := Lib.hid (fun (s : ByteArray) (W : World) (hW : Below w.heap.size w W) => bread_any s W (hT.on hW))
  have HUG := Lib.hid (fun (l : List Cs) (W : World) (hW : Below w.heap.size w W) (V : Option Addr) (m c : Nat) (hr : Reads W W.heap.size 3 V m (caseC l)) (hl : l.length = m) => brun_any (c := c) (hg.grow hW) hwg hr hl)
  have HUH := Lib.hid (fun (l : List Cs) (W : World) (hW : Below w.heap.size w W) (V : Option Addr) (m c : Nat) (hr : Reads W W.heap.size 3 V m (caseC l)) (hl : l.length = m) => brun_any (c := c) (hh.grow hW) hwh hr hl)
  clear hg hwg hh hwh hT hk
  obtain ⟨a2, ha2⟩ : ∃ a2, smB a = a2 := ⟨_, rfl⟩
  rw [ha2] at hs2
  rcases Nat.lt_or_ge 2 a.size with h3 | h3
  case' inl =>
    have hx : (2 : Int) < (a.size : Int) := by omega
    have hmn : min (a.size : Int) 2 = 2 := by omega
    have hle : (2 : Int) ≤ (a.size : Int) := by omega
    have hex : a.extract 0 2 = a2 := by rw [← ha2]; unfold smB; rw [Nat.min_eq_right (by omega)]
    have hs := fun W => slice_toB a .i64 2 2 rfl (by omega) W
    rw [hex] at hs
  case' inr =>
    have hx : ((2 : Int) < (a.size : Int)) = False := by simp; omega
    have hmn : min (a.size : Int) 2 = (a.size : Int) := by omega
    have hle : (0 : Int) ≤ (a.size : Int) := by omega
    have hex : a2 = a := by rw [← ha2]; unfold smB; rw [Nat.min_eq_left (by omega)]; simp
    subst hex
    have hs := fun W => slice_toB a2 .i64 a2.size a2.size rfl (by omega) W
    have hex : a2.extract 0 a2.size = a2 := by simp
    rw [hex] at hs
  all_goals
    clear ha2
    go_enter Tryz.func3, Tryz.ntmps3
    go_upto_region 1 with fail
    have gx : Blk ((w.alloc (.cells #[.slice A g.length cp] 24)).alloc (.cells #[.slice A' h.length cp'] 24)) w.heap.size 24 #[.slice A g.length cp] := (blk_at rfl).alloc _
    have hxx : Blk ((w.alloc (.cells #[.slice A g.length cp] 24)).alloc (.cells #[.slice A' h.length cp'] 24)) (w.heap.size + 1) 24 #[.slice A' h.length cp'] := blk_at (by simp)
    have hw0 : Below w.heap.size w ((w.alloc (.cells #[.slice A g.length cp] 24)).alloc (.cells #[.slice A' h.length cp'] 24)) := (by repeat (first | exact Below.refl _ _ | assumption | refine Below.drew ?_ | refine below_drewN ?_ _ | refine Below.alloc ?_ (by first | omega | (simp; omega) | simp) _ | refine Below.setCell ?_ (by first | omega | (simp; omega) | simp) _))
    generalize ((w.alloc (.cells #[.slice A g.length cp] 24)).alloc (.cells #[.slice A' h.length cp'] 24)) = w0 at gx hxx hw0 ⊢
    refine wp_region_q (fun W => Below w0.heap.size w0 W) (by kernel_rfl) (by kernel_rfl) (Below.refl _ _).drew ?_
    repeat
      (first | ((with_reducible apply QW.free rfl); · (intro W hW; go_simp; first | rfl | (go_at_call 4; refine (HWI.out W).mono ?_; exact fun e w' h => ⟨h.1, hW.trans (h.2.mono hW.size)⟩))) | ((with_reducible apply QW.skip rfl); · (first | exact ⟨_, _, rfl, rfl, .inl rfl⟩ | exact ⟨_, _, rfl, rfl, .inr rfl⟩)) | ((with_reducible apply QW.take rfl); (· exact ⟨_, rfl, rfl⟩); (· (intro W hW; go_simp; first | rfl | (go_at_call 4; refine (HWI.out W).mono ?_; exact fun e w' h => ⟨h.1, hW.trans (h.2.mono hW.size)⟩))))); (try simp only [Act.put, List.setIfInBounds_toArray, List.set_cons_zero, List.set_cons_succ])
    refine QW.nil ?_
    intro w1 hb1
    replace gx := gx.below hb1 gx.lt
    replace hxx := hxx.below hb1 hxx.lt
    replace hw1 := hw0.trans (hb1.mono hw0.size)
    clear hb1 hw0 hs hx h3 HWI hmn hle hex
    go_wp2_with fail
    refine (HBG.out _).mono ?_
    rintro e w2 ⟨rfl, hb2⟩
    replace gx := gx.below hb2 gx.lt
    replace hxx := hxx.below hb2 hxx.lt
    replace hw2 := hw1.trans (hb2.mono hw1.size)
    clear hb2 hw1
    have g0 : w2.cell? ⟨w.heap.size, 0, none⟩ = some (.slice A g.length cp) := gx.cell 0
    go_wp2_with fail
    refine (HRG.out a2 hs2 _ hw2).mono ?_
    rintro e w3 ⟨b, rfl, hbo, hb3⟩
    replace gx := gx.below hb3 gx.lt
    replace hxx := hxx.below hb3 hxx.lt
    replace hw3 := hw2.trans (hb3.mono hw2.size)
    clear hb3 hw2 g0 HRG
    cases b with
    | false =>
      clear hbo
      go_wp2_with fail
      refine (HBG.out _).mono ?_
      rintro e w4 ⟨rfl, hb4⟩
      replace hw4 := hw3.trans (hb4.mono hw3.size)
      go_wp2
      go_ret
      exact ⟨rfl, hw4⟩
    | true =>
    have hokg := hbo.1 rfl
    have h0 : w3.cell? ⟨w.heap.size + 1, 0, none⟩ = some (.slice A' h.length cp') := hxx.cell 0
    clear hbo
    have HOG := Lib.hid hokg
    clear hokg
    go_wp2_with fail
    refine (HRH.out a2 hs2 _ hw3).mono ?_
    rintro e w4 ⟨b, rfl, hbo, hb4⟩
    replace gx := gx.below hb4 gx.lt
    replace hxx := hxx.below hb4 hxx.lt
    replace hw4 := hw3.trans (hb4.mono hw3.size)
    clear hb4 hw3 h0 HRH
    cases b with
    | false =>
      clear hbo
      go_wp2_with fail
      refine (HBG.out _).mono ?_
      rintro e w5 ⟨rfl, hb5⟩
      replace hw5 := hw4.trans (hb5.mono hw4.size)
      go_wp2
      go_ret
      exact ⟨rfl, hw5⟩
    | true =>
    have hokh := hbo.1 rfl
    have ha1 : 1 ≤ a2.size := by
      have h1 := HOG.out.2.1.1
      rw [← size_list]
      exact List.length_pos_iff.2 h1
    have HWG : Hid ((wellG g).2 = 0) := HOG.out.1
    have HWH : Hid ((wellG h).2 = 0) := hokh.1
    clear hbo hokh HOG HBG
    go_wp2_with fail
    refine (HWD.out a2 ha1 hs2 _).mono ?_
    rintro e w5 ⟨ad, m, c, L, rfl, hLm, hm31, hmc, hL4, hRd, hb5⟩
    replace gx := gx.below hb5 gx.lt
    replace hxx := hxx.below hb5 hxx.lt
    replace hw5 := hw4.trans (hb5.mono hw4.size)
    have hz5 := hw5.size
    have hmi : ((40 : Int) < (m : Int)) = False := by simp; omega
    have HRW := Lib.hid hRd
    have HLM := Lib.hid hLm
    have HCK : Hid (bchkC (casesT g L) = 0) := casesT_ok hL4 (by omega)
    have HTX : Hid ((bookL (casesT g L)).length ≤ 2000) := by have := casesT_text (g := g) hL4; show _ ≤ _; omega
    clear hb5 hw4 HWD hLm hRd hL4
    go_wp2
    go_loopw [9, 63] (fun l i wr => ∃ (j c1 : Nat) (V : Option Addr), j ≤ m ∧ i = .int .i64 j ∧ l = .slice V j c1 ∧ Hid (wr.ownsRow w5.heap.size 35 3 (.slice V j c1) j (caseC (casesT g (L.take j)))) ∧ Below w5.heap.size w5 wr) (fun _ i _ => m - (intOf i).toNat)
    case atStart => exact ⟨0, 0, none, by omega, rfl, rfl, World.ownsRow_nil _ _ _ _, Below.refl _ _⟩
    case round =>
      obtain ⟨j, c1, V, hj, rfl, rfl, HO, hbr⟩ := hrel
      have hzr := hbr.size
      have hwr := hw5.trans (hbr.mono hz5)
      by_cases hjm : j < m
      · obtain ⟨ad', s, e1, hab, hs, hcs⟩ := reads_strW (HRW.out.below hbr) hjm
        injection e1 with e1
        subst e1
        have hji : (j : Int) < (m : Int) := by omega
        have gxr := gx.below hbr gx.lt
        have g0 : wr.cell? ⟨w.heap.size, 0, none⟩ = some (.slice A g.length cp) := gxr.cell 0
        have hac := HAG.out s wr hwr
        obtain ⟨y, hy⟩ : ∃ y, accG g s = y := ⟨_, rfl⟩
        rw [hy] at hac
        generalize lookG g s = lk at hac
        have HAC := Lib.hid hac
        have HSN : Hid (∀ k : Int, (if y = true then (1 : Int) else 2) = k → caseC (casesT g (L.take j)) ++ [.int .i64 k, .int .i64 0, .string s] = caseC (casesT g (L.take (j + 1)))) := fun k hk => casesT_snoc hs hy hk
        clear hac hy hs
        go_wp2_with fail
        refine HAC.out.mono ?_
        rintro e w6 ⟨rfl, hb6⟩
        have hbr6 := hbr.trans (hb6.mono hzr)
        have hz6 := hbr6.size
        have HO6 := Lib.hid (own_below HO.out hb6)
        clear hb6 HAC HO g0 gxr hcs
        cases y with
        | false =>
          go_wp2_with (at_builtin; refine wpList_append_own _ rfl _ _ _ rfl w5.heap.size 35 i0 _ 3 32 Tryz.underlying28 hi0 hz0 hz1 hz2 rfl (by decide) _ _ _ rfl (HO6.out.alloc _) ⟨w6.heap.size, 0, none⟩ 1 1 [.int .i64 2, .int .i64 0, .string s] rfl rfl (new_cellsB w6 35 [.int .i64 2, .int .i64 0, .string s]) (by simp [Value.oneCell']) (by unfold maxLen; omega) (by omega) (by simp; omega) ?_; intro v' w8 hown8 hgr8 _; obtain ⟨V8, c8, rfl⟩ := own_form hown8)
          have hb8 : Below w5.heap.size w5 w8 := below_app (hbr6.alloc hz6 _) (HO6.out.alloc _) hgr8 (by simp; omega) (Nat.le_refl _)
          rw [HSN.out 2 rfl] at hown8
          clear hgr8 HSN HO6
          go_roundw
          case rel => exact ⟨j + 1, c8, V8, by omega, by go_num, by go_num, hown8, hb8⟩
          case measure => simp [intOf]; omega
        | true =>
          go_wp2_with (at_builtin; refine wpList_append_own _ rfl _ _ _ rfl w5.heap.size 35 i0 _ 3 32 Tryz.underlying28 hi0 hz0 hz1 hz2 rfl (by decide) _ _ _ rfl (HO6.out.alloc _) ⟨w6.heap.size, 0, none⟩ 1 1 [.int .i64 1, .int .i64 0, .string s] rfl rfl (new_cellsB w6 35 [.int .i64 1, .int .i64 0, .string s]) (by simp [Value.oneCell']) (by unfold maxLen; omega) (by omega) (by simp; omega) ?_; intro v' w8 hown8 hgr8 _; obtain ⟨V8, c8, rfl⟩ := own_form hown8)
          have hb8 : Below w5.heap.size w5 w8 := below_app (hbr6.alloc hz6 _) (HO6.out.alloc _) hgr8 (by simp; omega) (Nat.le_refl _)
          rw [HSN.out 1 rfl] at hown8
          clear hgr8 HSN HO6
          go_roundw
          case rel => exact ⟨j + 1, c8, V8, by omega, by go_num, by go_num, hown8, hb8⟩
          case measure => simp [intOf]; omega
      · obtain rfl : j = m := by omega
        have hown := HO.out
        rw [List.take_of_length_le (by rw [HLM.out]; omega)] at hown
        have hlen : (casesT g L).length = j := by rw [casesT_len, HLM.out]
        have hpr := HPR.out (casesT g L) wr hwr V j c1 (Reads.of_own hown) hlen
        unfold BPrV at hpr
        rw [if_pos HCK.out] at hpr
        have HBK : Hid (breadR (⟨(bookL (casesT g L)).toArray⟩ : ByteArray).data.toList = (casesT g L, 0, 0)) := by
          show _ = _
          rw [data_arrB]
          rcases book_back HCK.out with ⟨h1, _⟩ | ⟨_, h2⟩
          · have := HTX.out; omega
          · exact h2
        generalize (⟨(bookL (casesT g L)).toArray⟩ : ByteArray) = S at hpr HBK
        have HPX := Lib.hid hpr
        have HLE := Lib.hid hlen
        have hbr7 := hbr
        clear hown hpr HPR HTX HO hlen
        go_wp2_with fail
        refine HPX.out.mono ?_
        rintro e w7 ⟨rfl, hb7⟩
        replace hwr := hwr.trans (hb7.mono hwr.size)
        replace hbr := hbr.trans (hb7.mono hzr)
        have hrd := HRD.out S w7 hwr
        rw [HBK.out] at hrd
        have HRX := Lib.hid hrd
        clear hb7 HPX hrd HRD HBK
        go_wp2_with fail
        refine HRX.out.mono ?_
        rintro e w8 ⟨hb8, Vm, cm, rfl, hRm⟩
        simp only at hRm
        rw [HLE.out] at hRm
        replace hwr := hwr.trans (hb8.mono hwr.size)
        replace hbr := hbr.trans (hb8.mono hbr.size)
        have HRM := Lib.hid hRm
        have hzr8 := hbr.size
        have gx8 := gx.below hbr gx.lt
        have hx8 := hxx.below hbr hxx.lt
        have g0 : w8.cell? ⟨w.heap.size, 0, none⟩ = some (.slice A g.length cp) := gx8.cell 0
        simp only [HLE.out]
        clear hb8 HRX hRm hzr hbr7
        go_wp2_with fail
        refine (HUG.out (casesT g L) w8 hwr Vm j cm HRM.out HLE.out).mono ?_
        rintro e w9 ⟨hb9, hq⟩
        rcases hq with ⟨hne, _⟩ | ⟨_, hne, _⟩ | ⟨_, _, Vp, cq, _, rfl, hRp⟩
        · exact absurd HWG.out hne
        · exact absurd HCK.out hne
        rw [HLE.out] at hRp
        replace hwr := hwr.trans (hb9.mono hwr.size)
        replace hbr := hbr.trans (hb9.mono hbr.size)
        have HRM9 := Lib.hid ((HRM.out.below hb9).more hb9.size)
        have HRP := Lib.hid hRp
        have gx9 := gx.below hbr gx.lt
        have hx9 := hxx.below hbr hxx.lt
        have h0 : w9.cell? ⟨w.heap.size + 1, 0, none⟩ = some (.slice A' h.length cp') := hx9.cell 0
        simp only [HLE.out]
        clear hb9 hRp HRM g0 gx8 hx8 HUG HWG hzr8
        go_wp2_with fail
        refine (HUH.out (casesT g L) w9 hwr Vm j cm HRM9.out HLE.out).mono ?_
        rintro e wa ⟨hba, hq⟩
        rcases hq with ⟨hne, _⟩ | ⟨_, hne, _⟩ | ⟨_, _, Vq, cr, _, rfl, hRq⟩
        · exact absurd HWH.out hne
        · exact absurd HCK.out hne
        rw [HLE.out] at hRq
        replace hwr := hwr.trans (hba.mono hwr.size)
        replace hbr := hbr.trans (hba.mono hbr.size)
        have hzra := hbr.size
        have HRQ := Lib.hid hRq
        have hct := containsB_no Vp j cq ((casesT g L).map (tellB g)) _ wa ((HRP.out.below hba).more hba.size) (by omega) casesT_self
        have HCT := Lib.hid hct
        simp only [HLE.out]
        clear hba hRq hct h0 gx9 hx9 HRM9 HUH HWH HCK HRP HLE
        go_wp2_with fail
        refine HCT.out.mono ?_
        rintro e wb ⟨rfl, rfl⟩
        clear HCT
        go_wp2
        go_loopw [137] (fun i wr => ∃ q : Nat, q ≤ j ∧ i = .int .i64 q ∧ Below wa.heap.size wa wr) (fun i _ => j - (intOf i).toNat)
        case atStart => exact ⟨0, by omega, rfl, Below.refl _ _⟩
        case round =>
          rename World => wv
          obtain ⟨q, hq, rfl, hbv⟩ := hrel
          have hbv5 := hbr.trans (hbv.mono hzra)
          have hwv := hwr.trans (hbv.mono hwr.size)
          by_cases hqj : q < j
          · obtain ⟨ad', s, e1, hab, hs, hcs⟩ := reads_strW (HRW.out.below hbv5) hqj
            injection e1 with e1
            subst e1
            obtain ⟨aq, rfl, habq, hcq⟩ := casesT_at (HRQ.out.below hbv) hqj hs
            have hqi : (q : Int) < (j : Int) := by omega
            have gv := gx.below hbv5 gx.lt
            have hv := hxx.below hbv5 hxx.lt
            have g0 : wv.cell? ⟨w.heap.size, 0, none⟩ = some (.slice A g.length cp) := gv.cell 0
            have hag := HAG.out s wv hwv
            have hah := fun W hW => HAH.out s W hW
            generalize lookG g s = lg at hag
            generalize lookG h s = lh at hah
            generalize accG g s = x at hag hcq
            generalize accG h s = y at hah hcq
            have HG1 := Lib.hid hag
            have HH1 := Lib.hid hah
            clear hag hah hs
            go_wp2_with fail
            refine HG1.out.mono ?_
            rintro e w6 ⟨rfl, hb6⟩
            have hw6 := hwv.trans (hb6.mono hwv.size)
            have hbv6 := hbv.trans (hb6.mono hbv.size)
            have hx6 := hv.below hb6 hv.lt
            have h0 : w6.cell? ⟨w.heap.size + 1, 0, none⟩ = some (.slice A' h.length cp') := hx6.cell 0
            have hcq6 : w6.cell? (aq.add q) = some (.bool (y == x)) := (hb6.cell (by rw [add_block]; have := hbv.size; omega)).trans hcq
            clear HG1 g0 gv hv hcs hcq hb6
            go_wp2_with fail
            refine (HH1.out _ hw6).mono ?_
            rintro e w7 ⟨rfl, hb7⟩
            have hbv7 := hbv6.trans (hb7.mono hbv6.size)
            have hcq7 : w7.cell? (aq.add q) = some (.bool (y == x)) := (hb7.cell (by rw [add_block]; have := hbv6.size; omega)).trans hcq6
            clear HH1 h0 hx6 hcq6 hb7
            cases x <;> cases y
            all_goals
              simp at hcq7
              go_wp2
              go_roundw
              case rel => exact ⟨q + 1, by omega, by go_num, hbv7⟩
              case measure => simp [intOf]; omega
          · go_wp2
            go_ret
            exact ⟨rfl, hwv⟩
end Go.Proofs.YtndhbdbfjkmloaaGreatDoor
namespace Go.Proofs.YtndhbdbfjkmloaaGreatDoor
open Go.Shelf
def sh_laysM145_ren : Go.Shelf.Ren := ⟨fun | 145 => 31 | 220 => 49 | 219 => 65 | 217 => 61 | 225 => 87 | 224 => 88 | 267 => 89 | 266 => 85 | 314 => 105 | n => n, fun | 9 => 9 | 4 => 4 | 59 => 82 | 3 => 3 | 5 => 5 | 46 => 104 | 146 => 169 | 51 => 161 | n => n, fun | 1 => 0 | n => n⟩
theorem sh_laysM145 : Go.Proofs.LaysM.n145 Tryz.prog sh_laysM145_ren := {
  mixed := by kernel_rfl
  f145 := Tryz.func31.trans (congrArg some (by kernel_rfl))
  f217 := Tryz.func61.trans (congrArg some (by kernel_rfl))
  f219 := Tryz.func65.trans (congrArg some (by kernel_rfl))
  f220 := Tryz.func49.trans (congrArg some (by kernel_rfl))
  f224 := Tryz.func88.trans (congrArg some (by kernel_rfl))
  f225 := Tryz.func87.trans (congrArg some (by kernel_rfl))
  f266 := Tryz.func85.trans (congrArg some (by kernel_rfl))
  f267 := Tryz.func89.trans (congrArg some (by kernel_rfl))
  f314 := Tryz.func105.trans (congrArg some (by kernel_rfl))
  t3 := Tryz.underlying3
  a3 := Tryz.isAgg3
  z3 := Tryz.sizeOf3
  v3 := Tryz.zeroValue3
  t4 := Tryz.underlying4
  a4 := Tryz.isAgg4
  z4 := Tryz.sizeOf4
  v4 := Tryz.zeroValue4
  t5 := Tryz.underlying5
  a5 := Tryz.isAgg5
  z5 := Tryz.sizeOf5
  v5 := Tryz.zeroValue5
  t9 := Tryz.underlying9
  a9 := Tryz.isAgg9
  z9 := Tryz.sizeOf9
  v9 := Tryz.zeroValue9
  t46 := Tryz.underlying104
  a46 := Tryz.isAgg104
  z46 := Tryz.sizeOf104
  v46 := Tryz.zeroValue104
  t51 := Tryz.underlying161
  a51 := Tryz.isAgg161
  z51 := Tryz.sizeOf161
  v51 := Tryz.zeroValue161
  t59 := Tryz.underlying82
  a59 := Tryz.isAgg82
  z59 := Tryz.sizeOf82
  v59 := Tryz.zeroValue82
  t146 := Tryz.underlying169
  a146 := Tryz.isAgg169
  z146 := Tryz.sizeOf169
  v146 := Tryz.zeroValue169
  g1 := by kernel_rfl
  i3 := by kernel_rfl
  i4 := by kernel_rfl
  i5 := by kernel_rfl
  i9 := by kernel_rfl
  i46 := by kernel_rfl
  i51 := by kernel_rfl
  i59 := by kernel_rfl
  i146 := by kernel_rfl
  m1 := by kernel_rfl
  s1_3 := fun w h => Go.Proofs.cell_of_shapedOpen_int (zero := #[.int .i64 0]) (t := 3) h (of_decide_eq_true (by kernel_rfl)) (by kernel_rfl) rfl (by kernel_rfl) (by kernel_rfl) Tryz.underlying3 }
end Go.Proofs.YtndhbdbfjkmloaaGreatDoor
