/- Books, walks: book.one. The contract of strings.Split, laid by the kit's shelf at this seat (wip/shelf.py writes this text anew for another seat). -/
import Derived.Test.YtndhbdbfjkmloaaGreatDoorJTopBook13
import Derived.Deep.DeepCutAuto
import Derived.Shelf.Small.Strs
import Derived.Shelf.Strconv.Atoi
import Derived.Shelf.Strconv.Itoa0
import Derived.Shelf.Strconv.Itoa1
import Derived.Shelf.LaysM
import Derived.Shelf.Strconv.Itoa2
import Derived.Shelf.Strconv.Itoa3
import Derived.Shelf.Strconv.AtoiErrFast
import Derived.Shelf.Strconv.ParseIntEmpty
import Derived.Shelf.Strconv.AtoiFail
import Derived.Shelf.Strconv.Clone
import Derived.Shelf.Strconv.SyntaxError
import Derived.Shelf.LaysC
import Derived.Shelf.Strconv.ToError
import Derived.Shelf.Strconv.Lower
import Derived.Shelf.Strconv.ParseUint10
import Derived.Shelf.Strconv.ParseUint10Empty
import Derived.Shelf.Strconv.ParseUint10Any
import Derived.Shelf.Strconv.ParseInt10
import Derived.Shelf.Strconv.AtoiLong
import Derived.Shelf.Strconv.AtoiInnerAll
import Derived.Shelf.Strconv.RangeError
import Derived.Shelf.Strconv.ToErrorRange
import Derived.Shelf.Strconv.AtoiAll
import Derived.Shelf.Strings.Search1
import Derived.Shelf.Strings.Search2
import Derived.Shelf.Strings.Search3
import Derived.Shelf.Strings.Cut
import Derived.Shelf.Strings.Count
import Derived.Shelf.Strings.Shaped
import Derived.Shelf.Strings.Split
import Derived.Shelf.Strings.SplitShaped
import Derived.Shelf.Unicode.DecodeSlow
import Derived.Shelf.Unicode.DecodeAny
import Derived.Test.YtndhbdbfjkmloaaGreatDoorProg
namespace Go.Proofs.YtndhbdbfjkmloaaGreatDoor
open Go.RowKit

theorem cutP_len : ∀ l : List UInt8, (cutP l).1.length ≤ l.length ∧ (cutP l).2.length ≤ l.length
  | [] => ⟨Nat.le_refl _, Nat.le_refl _⟩
  | b :: l => by
    obtain ⟨h1, h2⟩ := cutP_len l
    rw [cutP]
    split
    · simp
    · simp; omega
theorem below_set3 {B k : Nat} {w W : World} (h : Below B w W) (hk : B ≤ k) (u0 u1 u2 : Value) : Below B w (((W.setCell ⟨k, 0, none⟩ u0).setCell ⟨k, 1, none⟩ u1).setCell ⟨k, 2, none⟩ u2) := ((h.setCell hk _).setCell hk _).setCell hk _
theorem sz_arrB (t : List UInt8) : (⟨t.toArray⟩ : ByteArray).size = t.length := by simp [ByteArray.size]
theorem data_arrB (l : List UInt8) : (⟨l.toArray⟩ : ByteArray).data.toList = l := by simp
set_option maxRecDepth 100000 in
set_option maxHeartbeats 4000000 in
theorem bone_any (s : ByteArray) (hs : s.size ≤ 2000) (w : World) (hT : LibP w) : Calls Tryz.prog 20 #[.string s] w fun e w' => e = .returned (.tuple #[.agg (Cs.vals (oneR s.data.toList).1).toArray, .int .i64 (oneR s.data.toList).2]) ∧ Below w.heap.size w w' := by
  have HCU : Hid (∀ (u : ByteArray) (W : World), u.size ≤ 2000 → MaxP W → Calls Tryz.prog 31 #[.string u, .string ⟨#[32]⟩] W fun e w' => (∃ b : Bool, e = .returned (.tuple #[.string ⟨(cutP u.data.toList).1.toArray⟩, .string ⟨(cutP u.data.toList).2.toArray⟩, .bool b])) ∧ Below W.heap.size W w') := fun u W hu hm => by
    obtain ⟨m, hm⟩ := hm
    refine (sh_strings_Cut u ⟨#[32]⟩ m W (by omega) hm).mono fun e w' ⟨he, n, hw⟩ => ⟨⟨(Lib.cut u.data.toList [32]).2.2, ?_⟩, by rw [hw]; exact below_drewN (Below.refl _ _) n⟩
    rw [he, ← (cut_is u.data.toList).1, ← (cut_is u.data.toList).2]
  have HUD := Lib.hid (fun (u : ByteArray) (hu : u.size ≤ 2000) (W : World) (hW : Below w.heap.size w W) => undec_all u hu W (hT.on hW))
  have HUN := Lib.hid (fun (u : ByteArray) (W : World) (hu : u.size ≤ 2000) => unlit_whole u hu W)
  have HMX := Lib.hid (fun (W : World) (hW : Below w.heap.size w W) => (hT.on hW).max)
  have HFT := Lib.hid fitC_any
  unfold UnlQ at HUN
  generalize hQ : (fun e w' => e = Ending.returned (.tuple #[.agg (Cs.vals (oneR s.data.toList).1).toArray, .int .i64 (oneR s.data.toList).2]) ∧ Below w.heap.size w w') = Q
  have HQ : Hid (∀ (c : Cs × Int) (W : World), Below w.heap.size w W → oneR s.data.toList = c → Q (.returned (.tuple #[.agg (Cs.vals c.1).toArray, .int .i64 c.2])) W) := fun c W hW hc => by rw [← hQ, hc]; exact ⟨rfl, hW⟩
  have hlen := cutP_len s.data.toList
  rw [size_list] at hlen
  have HDA : Hid ((⟨(cutP s.data.toList).1.toArray⟩ : ByteArray).toList = (cutP s.data.toList).1 ∧ (⟨(cutP s.data.toList).2.toArray⟩ : ByteArray).data.toList = (cutP s.data.toList).2) := ⟨by rw [ByteArray.toList_eq], rfl⟩
  have hR : (⟨(cutP s.data.toList).2.toArray⟩ : ByteArray).size ≤ 2000 := by rw [sz_arrB]; omega
  clear hQ hT hlen
  have hm0 := HMX.out _ (((Below.refl w.heap.size w).alloc (Nat.le_refl _) (.cells #[.int .i64 0, .int .i64 0, .string ⟨#[]⟩] 35)).alloc (by simp) (.cells #[.int .i64 0, .int .i64 0, .string ⟨#[]⟩] 35))
  go_enter Tryz.func20, Tryz.ntmps20
  go_wp2_with fail
  refine (HCU.out s _ hs hm0).mono ?_
  rintro e w1 ⟨⟨bb, rfl⟩, hb1⟩
  have hrb : Blk w1 w.heap.size 35 #[.int .i64 0, .int .i64 0, .string ⟨#[]⟩] := ((blk_at rfl).alloc _).below hb1 (by simp; omega)
  have hcb : Blk w1 (w.heap.size + 1) 35 #[.int .i64 0, .int .i64 0, .string ⟨#[]⟩] := (blk_at (by simp)).below hb1 (by simp)
  have hbW : Below w.heap.size w w1 := (((Below.refl w.heap.size w).alloc (Nat.le_refl _) _).alloc (by simp) _).trans (hb1.mono (by simp; omega))
  clear hb1 hm0
  by_cases hA : (cutP s.data.toList).1 = wdA
  · have HONE : Hid (oneR s.data.toList = finC 1 0 (⟨(cutP s.data.toList).2.toArray⟩ : ByteArray).data.toList) := by show _ = _; unfold oneR; rw [if_pos hA]
    have hAA : ((⟨(cutP s.data.toList).1.toArray⟩ : ByteArray).toList == [97, 99, 99, 101, 112, 116]) = true := by rw [HDA.out.1, hA]; rfl
    generalize (⟨(cutP s.data.toList).1.toArray⟩ : ByteArray) = A at *
    generalize (⟨(cutP s.data.toList).2.toArray⟩ : ByteArray) = R at *
    have x0 : w1.cell? ⟨w.heap.size + 1, 0, none⟩ = some (.int .i64 0) := hcb.cell 0
    have xf := hcb.frozen 0
    clear hA HUD HMX HCU
    go_upto_region 16 with fail
    replace hcb : Blk (w1.setCell ⟨w.heap.size + 1, 0, none⟩ (.int .i64 1)) (w.heap.size + 1) 35 #[.int .i64 1, .int .i64 0, .string ⟨#[]⟩] := hcb.set_ 0 _
    replace hrb := hrb.far (p := ⟨w.heap.size + 1, 0, none⟩) (show w.heap.size ≠ w.heap.size + 1 by omega) (.int .i64 1)
    replace hbW := hbW.setCell (p := ⟨w.heap.size + 1, 0, none⟩) (show w.heap.size ≤ w.heap.size + 1 by omega) (.int .i64 1)
    generalize (w1.setCell ⟨w.heap.size + 1, 0, none⟩ (.int .i64 1)) = w2 at hcb hrb hbW ⊢
    clear x0 xf
    have hzW := hbW.size
    have hcl := hcb.lt
    have hrl := hrb.lt
    go_wp2_with fail
    refine (HUN.out R _ hR).mono ?_
    rintro e w5 ⟨hb5, he⟩
    have hc5 := hcb.below hb5 hcl
    have hr5 := hrb.below hb5 hrl
    have hw5 := hbW.trans (hb5.mono hzW)
    clear hb5 hcb hrb hbW hzW hcl hrl
    have c0 : w5.cell? ⟨w.heap.size + 1, 0, none⟩ = some (.int .i64 1) := hc5.cell 0
    have c1 : w5.cell? ⟨w.heap.size + 1, 1, none⟩ = some (.int .i64 0) := hc5.cell 1
    have c2 : w5.cell? ⟨w.heap.size + 1, 2, none⟩ = some (.string ⟨#[]⟩) := hc5.cell 2
    have cf2 := hc5.frozen 2
    have r0 : w5.cell? ⟨w.heap.size, 0, none⟩ = some (.int .i64 0) := hr5.cell 0
    have r1 : w5.cell? ⟨w.heap.size, 1, none⟩ = some (.int .i64 0) := hr5.cell 1
    have r2 : w5.cell? ⟨w.heap.size, 2, none⟩ = some (.string ⟨#[]⟩) := hr5.cell 2
    have rf0 := hr5.frozen 0
    have rf1 := hr5.frozen 1
    have rf2 := hr5.frozen 2
    have HRZ : Hid (Blk (((w5.setCell ⟨w.heap.size, 0, none⟩ (.int .i64 0)).setCell ⟨w.heap.size, 1, none⟩ (.int .i64 0)).setCell ⟨w.heap.size, 2, none⟩ (.string ⟨#[]⟩)) w.heap.size 35 #[.int .i64 0, .int .i64 0, .string ⟨#[]⟩]) := ((hr5.set_ 0 (.int .i64 0)).set_ 1 (.int .i64 0)).set_ 2 (.string ⟨#[]⟩)
    have hsl := size_list (R)
    cases hu : unlR (R).data.toList with
    | none =>
      have hq := HQ.out _ _ (below_set3 hw5 (Nat.le_refl _) (.int .i64 0) (.int .i64 0) (.string ⟨#[]⟩)) (show oneR s.data.toList = (noC, 4) by rw [HONE.out]; unfold finC unlW; rw [hu])
      have HQ2 := Lib.hid hq
      rw [hu] at he
      dsimp only at he
      subst he
      clear hq hu
      go_wp2
      (try simp only [Exit.inBlock, Exit.then])
      have q0 : (((w5.setCell ⟨w.heap.size, 0, none⟩ (.int .i64 0)).setCell ⟨w.heap.size, 1, none⟩ (.int .i64 0)).setCell ⟨w.heap.size, 2, none⟩ (.string ⟨#[]⟩)).cell? ⟨w.heap.size, 0, none⟩ = some (.int .i64 0) := HRZ.out.cell 0
      have q1 : (((w5.setCell ⟨w.heap.size, 0, none⟩ (.int .i64 0)).setCell ⟨w.heap.size, 1, none⟩ (.int .i64 0)).setCell ⟨w.heap.size, 2, none⟩ (.string ⟨#[]⟩)).cell? ⟨w.heap.size, 1, none⟩ = some (.int .i64 0) := HRZ.out.cell 1
      have q2 : (((w5.setCell ⟨w.heap.size, 0, none⟩ (.int .i64 0)).setCell ⟨w.heap.size, 1, none⟩ (.int .i64 0)).setCell ⟨w.heap.size, 2, none⟩ (.string ⟨#[]⟩)).cell? ⟨w.heap.size, 2, none⟩ = some (.string ⟨#[]⟩) := HRZ.out.cell 2
      refine bodyPost_ret (v := .tuple #[.agg #[.int .i64 0, .int .i64 0, .string ⟨#[]⟩], .int .i64 4]) (by simp [results, Tryz.results20, go_sem, q0, q1, q2]) rfl ?_
      exact HQ2.out
    | some y =>
      obtain ⟨o, c⟩ := y
      rw [hu] at he
      dsimp only at he
      by_cases hn : 1 + c = (R).size
      · have hone : oneR s.data.toList = ((1, 0, ⟨o.toArray⟩), fitC (1, 0, ⟨o.toArray⟩)) := by rw [HONE.out]; unfold finC unlW; rw [hu]; simp only; rw [if_pos (by rw [hsl]; exact hn)]
        have hni : (((1 + c : Nat) : Int) != ((R).size : Int)) = false := by rw [bne_eq_false_iff_eq]; omega
        have hft := HFT.out 1 0 ⟨o.toArray⟩
        generalize (⟨o.toArray⟩ : ByteArray) = O at hone hft he
        generalize fitC (1, 0, O) = fx at hone hft
        have HFX := Lib.hid hft
        have HON := Lib.hid hone
        clear hone hft hu hn HONE HFT HUN HRZ
        generalize ((1 + c : Nat) : Int) = z at hni he
        subst he
        go_upto_region 20 with fail
        have hc6 : Blk (w5.setCell ⟨w.heap.size + 1, 2, none⟩ (.string O)) (w.heap.size + 1) 35 #[.int .i64 1, .int .i64 0, .string O] := hc5.set_ 2 _
        have hr6 := hr5.far (p := ⟨w.heap.size + 1, 2, none⟩) (show w.heap.size ≠ w.heap.size + 1 by omega) (.string O)
        have hw6 := hw5.setCell (p := ⟨w.heap.size + 1, 2, none⟩) (show w.heap.size ≤ w.heap.size + 1 by omega) (.string O)
        generalize (w5.setCell ⟨w.heap.size + 1, 2, none⟩ (.string O)) = w6 at hc6 hr6 hw6 ⊢
        clear c0 c1 c2 cf2 r0 r1 r2 rf0 rf1 rf2 hc5 hr5 hw5
        refine wp_region_l (Below w6.heap.size w6) (fun i => i == 3 || i == 4) (by kernel_rfl) ?_
        have hC : Below w6.heap.size w6 w6.drew := (Below.refl _ _).drew
        generalize w6.drew = wd at hC ⊢
        apply L.rdt (i := 0) rfl (by kernel_rfl) hC rfl
        · intro W hW
          have q0 := (hc6.below hW hc6.lt).cell 0; have q1 := (hc6.below hW hc6.lt).cell 1; have q2 := (hc6.below hW hc6.lt).cell 2
          unfold readW
          go_simp
          first | rfl | exact ⟨rfl, rfl⟩
        first | simp only [Act.put, List.setIfInBounds_toArray, List.set_cons_succ, List.set_cons_zero] | skip
        apply L.rdt (i := 1) rfl (by kernel_rfl) hC rfl
        · intro W hW
          have q0 := (hc6.below hW hc6.lt).cell 0; have q1 := (hc6.below hW hc6.lt).cell 1; have q2 := (hc6.below hW hc6.lt).cell 2
          unfold readW
          go_simp
          first | rfl | exact ⟨rfl, rfl⟩
        first | simp only [Act.put, List.setIfInBounds_toArray, List.set_cons_succ, List.set_cons_zero] | skip
        apply L.one (i := 2) rfl (by kernel_rfl) rfl
        unfold stepT
        go_simp
        go_at_call 27
        refine (HFX.out _).mono ?_
        rintro e w7 ⟨rfl, hb7⟩
        replace hC := hC.trans (hb7.mono hC.size)
        refine ⟨_, rfl, hC, ?_⟩
        have hr7 := hr6.below hC hr6.lt
        have hw7 := hw6.trans (hC.mono hw6.size)
        have r0 : w7.cell? ⟨w.heap.size, 0, none⟩ = some (.int .i64 0) := hr7.cell 0
        have r1 : w7.cell? ⟨w.heap.size, 1, none⟩ = some (.int .i64 0) := hr7.cell 1
        have r2 : w7.cell? ⟨w.heap.size, 2, none⟩ = some (.string ⟨#[]⟩) := hr7.cell 2
        have rf0 := hr7.frozen 0
        have rf1 := hr7.frozen 1
        have rf2 := hr7.frozen 2
        have hb8 := below_set3 hw7 (Nat.le_refl _) (.int .i64 1) (.int .i64 0) (.string O)
        have hr8 : Blk (((w7.setCell ⟨w.heap.size, 0, none⟩ (.int .i64 1)).setCell ⟨w.heap.size, 1, none⟩ (.int .i64 0)).setCell ⟨w.heap.size, 2, none⟩ (.string O)) w.heap.size 35 #[.int .i64 1, .int .i64 0, .string O] := ((hr7.set_ 0 (.int .i64 1)).set_ 1 (.int .i64 0)).set_ 2 (.string O)
        have HB8 := Lib.hid hb8
        have HR8 := Lib.hid hr8
        clear hb8 hr8 hr7 hw7 hC hb7
        first | simp only [Act.put, List.setIfInBounds_toArray, List.set_cons_succ, List.set_cons_zero] | skip
        apply L.one (i := 3) rfl (by kernel_rfl) rfl
        unfold stepT
        go_simp
        generalize (((w7.setCell ⟨w.heap.size, 0, none⟩ (.int .i64 1)).setCell ⟨w.heap.size, 1, none⟩ (.int .i64 0)).setCell ⟨w.heap.size, 2, none⟩ (.string O)) = w8 at HB8 HR8 ⊢
        clear r0 r1 r2 rf0 rf1 rf2
        apply L.rdl (i := 4) rfl (by kernel_rfl) rfl
        · intro W
          unfold readW
          go_simp
          first | rfl | exact ⟨rfl, rfl⟩
        first | simp only [Act.put, List.setIfInBounds_toArray, List.set_cons_succ, List.set_cons_zero] | skip
        refine L.done (by kernel_rfl) ?_
        have q0 := HR8.out.cell 0
        have q1 := HR8.out.cell 1
        have q2 := HR8.out.cell 2
        have hq := HQ.out _ _ HB8.out HON.out
        have HQ2 := Lib.hid hq
        clear hq HQ
        go_wp2
        (try simp only [Exit.inBlock, Exit.then])
        refine bodyPost_ret (v := .tuple #[.agg #[.int .i64 1, .int .i64 0, .string O], .int .i64 fx]) (by simp [results, Tryz.results20, go_sem, q0, q1, q2]) rfl ?_
        exact HQ2.out
      · have hq := HQ.out _ _ (below_set3 hw5 (Nat.le_refl _) (.int .i64 0) (.int .i64 0) (.string ⟨#[]⟩)) (show oneR s.data.toList = (noC, 4) by rw [HONE.out]; unfold finC unlW; rw [hu]; simp only; rw [if_neg (by rw [hsl]; exact hn)])
        have HQ2 := Lib.hid hq
        have hni : (((1 + c : Nat) : Int) != ((R).size : Int)) = true := by rw [bne_iff_ne]; omega
        clear hq hu hn
        generalize ((1 + c : Nat) : Int) = z at hni he
        subst he
        go_wp2
        (try simp only [Exit.inBlock, Exit.then])
        have q0 : (((w5.setCell ⟨w.heap.size, 0, none⟩ (.int .i64 0)).setCell ⟨w.heap.size, 1, none⟩ (.int .i64 0)).setCell ⟨w.heap.size, 2, none⟩ (.string ⟨#[]⟩)).cell? ⟨w.heap.size, 0, none⟩ = some (.int .i64 0) := HRZ.out.cell 0
        have q1 : (((w5.setCell ⟨w.heap.size, 0, none⟩ (.int .i64 0)).setCell ⟨w.heap.size, 1, none⟩ (.int .i64 0)).setCell ⟨w.heap.size, 2, none⟩ (.string ⟨#[]⟩)).cell? ⟨w.heap.size, 1, none⟩ = some (.int .i64 0) := HRZ.out.cell 1
        have q2 : (((w5.setCell ⟨w.heap.size, 0, none⟩ (.int .i64 0)).setCell ⟨w.heap.size, 1, none⟩ (.int .i64 0)).setCell ⟨w.heap.size, 2, none⟩ (.string ⟨#[]⟩)).cell? ⟨w.heap.size, 2, none⟩ = some (.string ⟨#[]⟩) := HRZ.out.cell 2
        refine bodyPost_ret (v := .tuple #[.agg #[.int .i64 0, .int .i64 0, .string ⟨#[]⟩], .int .i64 4]) (by simp [results, Tryz.results20, go_sem, q0, q1, q2]) rfl ?_
        exact HQ2.out
  by_cases hR' : (cutP s.data.toList).1 = wdR
  · have HONE : Hid (oneR s.data.toList = finC 2 0 (⟨(cutP s.data.toList).2.toArray⟩ : ByteArray).data.toList) := by show _ = _; unfold oneR; rw [if_neg hA, if_pos hR']
    have hAA : ((⟨(cutP s.data.toList).1.toArray⟩ : ByteArray).toList == [97, 99, 99, 101, 112, 116]) = false := by rw [HDA.out.1, beq_eq_false_iff_ne]; exact hA
    have hAR : ((⟨(cutP s.data.toList).1.toArray⟩ : ByteArray).toList == [114, 101, 106, 101, 99, 116]) = true := by rw [HDA.out.1, hR']; rfl
    generalize (⟨(cutP s.data.toList).1.toArray⟩ : ByteArray) = A at *
    generalize (⟨(cutP s.data.toList).2.toArray⟩ : ByteArray) = R at *
    have x0 : w1.cell? ⟨w.heap.size + 1, 0, none⟩ = some (.int .i64 0) := hcb.cell 0
    have xf := hcb.frozen 0
    clear hA hR' HUD HMX HCU
    go_upto_region 16 with fail
    replace hcb : Blk (w1.setCell ⟨w.heap.size + 1, 0, none⟩ (.int .i64 2)) (w.heap.size + 1) 35 #[.int .i64 2, .int .i64 0, .string ⟨#[]⟩] := hcb.set_ 0 _
    replace hrb := hrb.far (p := ⟨w.heap.size + 1, 0, none⟩) (show w.heap.size ≠ w.heap.size + 1 by omega) (.int .i64 2)
    replace hbW := hbW.setCell (p := ⟨w.heap.size + 1, 0, none⟩) (show w.heap.size ≤ w.heap.size + 1 by omega) (.int .i64 2)
    generalize (w1.setCell ⟨w.heap.size + 1, 0, none⟩ (.int .i64 2)) = w2 at hcb hrb hbW ⊢
    clear x0 xf
    have hzW := hbW.size
    have hcl := hcb.lt
    have hrl := hrb.lt
    go_wp2_with fail
    refine (HUN.out R _ hR).mono ?_
    rintro e w5 ⟨hb5, he⟩
    have hc5 := hcb.below hb5 hcl
    have hr5 := hrb.below hb5 hrl
    have hw5 := hbW.trans (hb5.mono hzW)
    clear hb5 hcb hrb hbW hzW hcl hrl
    have c0 : w5.cell? ⟨w.heap.size + 1, 0, none⟩ = some (.int .i64 2) := hc5.cell 0
    have c1 : w5.cell? ⟨w.heap.size + 1, 1, none⟩ = some (.int .i64 0) := hc5.cell 1
    have c2 : w5.cell? ⟨w.heap.size + 1, 2, none⟩ = some (.string ⟨#[]⟩) := hc5.cell 2
    have cf2 := hc5.frozen 2
    have r0 : w5.cell? ⟨w.heap.size, 0, none⟩ = some (.int .i64 0) := hr5.cell 0
    have r1 : w5.cell? ⟨w.heap.size, 1, none⟩ = some (.int .i64 0) := hr5.cell 1
    have r2 : w5.cell? ⟨w.heap.size, 2, none⟩ = some (.string ⟨#[]⟩) := hr5.cell 2
    have rf0 := hr5.frozen 0
    have rf1 := hr5.frozen 1
    have rf2 := hr5.frozen 2
    have HRZ : Hid (Blk (((w5.setCell ⟨w.heap.size, 0, none⟩ (.int .i64 0)).setCell ⟨w.heap.size, 1, none⟩ (.int .i64 0)).setCell ⟨w.heap.size, 2, none⟩ (.string ⟨#[]⟩)) w.heap.size 35 #[.int .i64 0, .int .i64 0, .string ⟨#[]⟩]) := ((hr5.set_ 0 (.int .i64 0)).set_ 1 (.int .i64 0)).set_ 2 (.string ⟨#[]⟩)
    have hsl := size_list (R)
    cases hu : unlR (R).data.toList with
    | none =>
      have hq := HQ.out _ _ (below_set3 hw5 (Nat.le_refl _) (.int .i64 0) (.int .i64 0) (.string ⟨#[]⟩)) (show oneR s.data.toList = (noC, 4) by rw [HONE.out]; unfold finC unlW; rw [hu])
      have HQ2 := Lib.hid hq
      rw [hu] at he
      dsimp only at he
      subst he
      clear hq hu
      go_wp2
      (try simp only [Exit.inBlock, Exit.then])
      have q0 : (((w5.setCell ⟨w.heap.size, 0, none⟩ (.int .i64 0)).setCell ⟨w.heap.size, 1, none⟩ (.int .i64 0)).setCell ⟨w.heap.size, 2, none⟩ (.string ⟨#[]⟩)).cell? ⟨w.heap.size, 0, none⟩ = some (.int .i64 0) := HRZ.out.cell 0
      have q1 : (((w5.setCell ⟨w.heap.size, 0, none⟩ (.int .i64 0)).setCell ⟨w.heap.size, 1, none⟩ (.int .i64 0)).setCell ⟨w.heap.size, 2, none⟩ (.string ⟨#[]⟩)).cell? ⟨w.heap.size, 1, none⟩ = some (.int .i64 0) := HRZ.out.cell 1
      have q2 : (((w5.setCell ⟨w.heap.size, 0, none⟩ (.int .i64 0)).setCell ⟨w.heap.size, 1, none⟩ (.int .i64 0)).setCell ⟨w.heap.size, 2, none⟩ (.string ⟨#[]⟩)).cell? ⟨w.heap.size, 2, none⟩ = some (.string ⟨#[]⟩) := HRZ.out.cell 2
      refine bodyPost_ret (v := .tuple #[.agg #[.int .i64 0, .int .i64 0, .string ⟨#[]⟩], .int .i64 4]) (by simp [results, Tryz.results20, go_sem, q0, q1, q2]) rfl ?_
      exact HQ2.out
    | some y =>
      obtain ⟨o, c⟩ := y
      rw [hu] at he
      dsimp only at he
      by_cases hn : 1 + c = (R).size
      · have hone : oneR s.data.toList = ((2, 0, ⟨o.toArray⟩), fitC (2, 0, ⟨o.toArray⟩)) := by rw [HONE.out]; unfold finC unlW; rw [hu]; simp only; rw [if_pos (by rw [hsl]; exact hn)]
        have hni : (((1 + c : Nat) : Int) != ((R).size : Int)) = false := by rw [bne_eq_false_iff_eq]; omega
        have hft := HFT.out 2 0 ⟨o.toArray⟩
        generalize (⟨o.toArray⟩ : ByteArray) = O at hone hft he
        generalize fitC (2, 0, O) = fx at hone hft
        have HFX := Lib.hid hft
        have HON := Lib.hid hone
        clear hone hft hu hn HONE HFT HUN HRZ
        generalize ((1 + c : Nat) : Int) = z at hni he
        subst he
        go_upto_region 20 with fail
        have hc6 : Blk (w5.setCell ⟨w.heap.size + 1, 2, none⟩ (.string O)) (w.heap.size + 1) 35 #[.int .i64 2, .int .i64 0, .string O] := hc5.set_ 2 _
        have hr6 := hr5.far (p := ⟨w.heap.size + 1, 2, none⟩) (show w.heap.size ≠ w.heap.size + 1 by omega) (.string O)
        have hw6 := hw5.setCell (p := ⟨w.heap.size + 1, 2, none⟩) (show w.heap.size ≤ w.heap.size + 1 by omega) (.string O)
        generalize (w5.setCell ⟨w.heap.size + 1, 2, none⟩ (.string O)) = w6 at hc6 hr6 hw6 ⊢
        clear c0 c1 c2 cf2 r0 r1 r2 rf0 rf1 rf2 hc5 hr5 hw5
        refine wp_region_l (Below w6.heap.size w6) (fun i => i == 3 || i == 4) (by kernel_rfl) ?_
        have hC : Below w6.heap.size w6 w6.drew := (Below.refl _ _).drew
        generalize w6.drew = wd at hC ⊢
        apply L.rdt (i := 0) rfl (by kernel_rfl) hC rfl
        · intro W hW
          have q0 := (hc6.below hW hc6.lt).cell 0; have q1 := (hc6.below hW hc6.lt).cell 1; have q2 := (hc6.below hW hc6.lt).cell 2
          unfold readW
          go_simp
          first | rfl | exact ⟨rfl, rfl⟩
        first | simp only [Act.put, List.setIfInBounds_toArray, List.set_cons_succ, List.set_cons_zero] | skip
        apply L.rdt (i := 1) rfl (by kernel_rfl) hC rfl
        · intro W hW
          have q0 := (hc6.below hW hc6.lt).cell 0; have q1 := (hc6.below hW hc6.lt).cell 1; have q2 := (hc6.below hW hc6.lt).cell 2
          unfold readW
          go_simp
          first | rfl | exact ⟨rfl, rfl⟩
        first | simp only [Act.put, List.setIfInBounds_toArray, List.set_cons_succ, List.set_cons_zero] | skip
        apply L.one (i := 2) rfl (by kernel_rfl) rfl
        unfold stepT
        go_simp
        go_at_call 27
        refine (HFX.out _).mono ?_
        rintro e w7 ⟨rfl, hb7⟩
        replace hC := hC.trans (hb7.mono hC.size)
        refine ⟨_, rfl, hC, ?_⟩
        have hr7 := hr6.below hC hr6.lt
        have hw7 := hw6.trans (hC.mono hw6.size)
        have r0 : w7.cell? ⟨w.heap.size, 0, none⟩ = some (.int .i64 0) := hr7.cell 0
        have r1 : w7.cell? ⟨w.heap.size, 1, none⟩ = some (.int .i64 0) := hr7.cell 1
        have r2 : w7.cell? ⟨w.heap.size, 2, none⟩ = some (.string ⟨#[]⟩) := hr7.cell 2
        have rf0 := hr7.frozen 0
        have rf1 := hr7.frozen 1
        have rf2 := hr7.frozen 2
        have hb8 := below_set3 hw7 (Nat.le_refl _) (.int .i64 2) (.int .i64 0) (.string O)
        have hr8 : Blk (((w7.setCell ⟨w.heap.size, 0, none⟩ (.int .i64 2)).setCell ⟨w.heap.size, 1, none⟩ (.int .i64 0)).setCell ⟨w.heap.size, 2, none⟩ (.string O)) w.heap.size 35 #[.int .i64 2, .int .i64 0, .string O] := ((hr7.set_ 0 (.int .i64 2)).set_ 1 (.int .i64 0)).set_ 2 (.string O)
        have HB8 := Lib.hid hb8
        have HR8 := Lib.hid hr8
        clear hb8 hr8 hr7 hw7 hC hb7
        first | simp only [Act.put, List.setIfInBounds_toArray, List.set_cons_succ, List.set_cons_zero] | skip
        apply L.one (i := 3) rfl (by kernel_rfl) rfl
        unfold stepT
        go_simp
        generalize (((w7.setCell ⟨w.heap.size, 0, none⟩ (.int .i64 2)).setCell ⟨w.heap.size, 1, none⟩ (.int .i64 0)).setCell ⟨w.heap.size, 2, none⟩ (.string O)) = w8 at HB8 HR8 ⊢
        clear r0 r1 r2 rf0 rf1 rf2
        apply L.rdl (i := 4) rfl (by kernel_rfl) rfl
        · intro W
          unfold readW
          go_simp
          first | rfl | exact ⟨rfl, rfl⟩
        first | simp only [Act.put, List.setIfInBounds_toArray, List.set_cons_succ, List.set_cons_zero] | skip
        refine L.done (by kernel_rfl) ?_
        have q0 := HR8.out.cell 0
        have q1 := HR8.out.cell 1
        have q2 := HR8.out.cell 2
        have hq := HQ.out _ _ HB8.out HON.out
        have HQ2 := Lib.hid hq
        clear hq HQ
        go_wp2
        (try simp only [Exit.inBlock, Exit.then])
        refine bodyPost_ret (v := .tuple #[.agg #[.int .i64 2, .int .i64 0, .string O], .int .i64 fx]) (by simp [results, Tryz.results20, go_sem, q0, q1, q2]) rfl ?_
        exact HQ2.out
      · have hq := HQ.out _ _ (below_set3 hw5 (Nat.le_refl _) (.int .i64 0) (.int .i64 0) (.string ⟨#[]⟩)) (show oneR s.data.toList = (noC, 4) by rw [HONE.out]; unfold finC unlW; rw [hu]; simp only; rw [if_neg (by rw [hsl]; exact hn)])
        have HQ2 := Lib.hid hq
        have hni : (((1 + c : Nat) : Int) != ((R).size : Int)) = true := by rw [bne_iff_ne]; omega
        clear hq hu hn
        generalize ((1 + c : Nat) : Int) = z at hni he
        subst he
        go_wp2
        (try simp only [Exit.inBlock, Exit.then])
        have q0 : (((w5.setCell ⟨w.heap.size, 0, none⟩ (.int .i64 0)).setCell ⟨w.heap.size, 1, none⟩ (.int .i64 0)).setCell ⟨w.heap.size, 2, none⟩ (.string ⟨#[]⟩)).cell? ⟨w.heap.size, 0, none⟩ = some (.int .i64 0) := HRZ.out.cell 0
        have q1 : (((w5.setCell ⟨w.heap.size, 0, none⟩ (.int .i64 0)).setCell ⟨w.heap.size, 1, none⟩ (.int .i64 0)).setCell ⟨w.heap.size, 2, none⟩ (.string ⟨#[]⟩)).cell? ⟨w.heap.size, 1, none⟩ = some (.int .i64 0) := HRZ.out.cell 1
        have q2 : (((w5.setCell ⟨w.heap.size, 0, none⟩ (.int .i64 0)).setCell ⟨w.heap.size, 1, none⟩ (.int .i64 0)).setCell ⟨w.heap.size, 2, none⟩ (.string ⟨#[]⟩)).cell? ⟨w.heap.size, 2, none⟩ = some (.string ⟨#[]⟩) := HRZ.out.cell 2
        refine bodyPost_ret (v := .tuple #[.agg #[.int .i64 0, .int .i64 0, .string ⟨#[]⟩], .int .i64 4]) (by simp [results, Tryz.results20, go_sem, q0, q1, q2]) rfl ?_
        exact HQ2.out
  by_cases hP : (cutP s.data.toList).1 = wdP
  · have HONE0 : Hid (oneR s.data.toList = match undR (cutP (⟨(cutP s.data.toList).2.toArray⟩ : ByteArray).data.toList).1 with
      | some n => finC 4 n (cutP (⟨(cutP s.data.toList).2.toArray⟩ : ByteArray).data.toList).2
      | none => (noC, 4)) := by show _ = _; unfold oneR; rw [if_neg hA, if_neg hR', if_pos hP]; cases undR (cutP (cutP s.data.toList).2).1 <;> rfl
    have hAA : ((⟨(cutP s.data.toList).1.toArray⟩ : ByteArray).toList == [97, 99, 99, 101, 112, 116]) = false := by rw [HDA.out.1, beq_eq_false_iff_ne]; exact hA
    have hAR : ((⟨(cutP s.data.toList).1.toArray⟩ : ByteArray).toList == [114, 101, 106, 101, 99, 116]) = false := by rw [HDA.out.1, beq_eq_false_iff_ne]; exact hR'
    have hAP : ((⟨(cutP s.data.toList).1.toArray⟩ : ByteArray).toList == [112, 114, 101, 102, 105, 120]) = true := by rw [HDA.out.1, hP]; rfl
    generalize (⟨(cutP s.data.toList).1.toArray⟩ : ByteArray) = A at *
    generalize (⟨(cutP s.data.toList).2.toArray⟩ : ByteArray) = R at *
    have x0 : w1.cell? ⟨w.heap.size + 1, 0, none⟩ = some (.int .i64 0) := hcb.cell 0
    have xf := hcb.frozen 0
    clear hA hR' hP
    go_upto_region 11 with fail
    replace hcb : Blk (w1.setCell ⟨w.heap.size + 1, 0, none⟩ (.int .i64 4)) (w.heap.size + 1) 35 #[.int .i64 4, .int .i64 0, .string ⟨#[]⟩] := hcb.set_ 0 _
    replace hrb := hrb.far (p := ⟨w.heap.size + 1, 0, none⟩) (show w.heap.size ≠ w.heap.size + 1 by omega) (.int .i64 4)
    replace hbW := hbW.setCell (p := ⟨w.heap.size + 1, 0, none⟩) (show w.heap.size ≤ w.heap.size + 1 by omega) (.int .i64 4)
    generalize (w1.setCell ⟨w.heap.size + 1, 0, none⟩ (.int .i64 4)) = w2 at hcb hrb hbW ⊢
    clear x0 xf hAA hAR hAP HDA
    have hlen2 := cutP_len R.data.toList
    rw [size_list] at hlen2
    have hm2 := HMX.out _ hbW
    go_wp2_with fail
    refine (HCU.out R _ hR hm2).mono ?_
    rintro e w3 ⟨⟨b3, rfl⟩, hb3⟩
    replace hcb := hcb.below hb3 hcb.lt
    replace hrb := hrb.below hb3 hrb.lt
    replace hbW := hbW.trans (hb3.mono hbW.size)
    clear hb3 hm2 HCU HMX
    have hR1 : (⟨(cutP R.data.toList).1.toArray⟩ : ByteArray).size ≤ 2000 := by rw [sz_arrB]; omega
    have hR2 : (⟨(cutP R.data.toList).2.toArray⟩ : ByteArray).size ≤ 2000 := by rw [sz_arrB]; omega
    have HD1 : Hid ((⟨(cutP R.data.toList).1.toArray⟩ : ByteArray).data.toList = (cutP R.data.toList).1) := rfl
    have HD2 : Hid ((⟨(cutP R.data.toList).2.toArray⟩ : ByteArray).data.toList = (cutP R.data.toList).2) := rfl
    generalize (⟨(cutP R.data.toList).1.toArray⟩ : ByteArray) = U at *
    generalize (⟨(cutP R.data.toList).2.toArray⟩ : ByteArray) = V at *
    rw [← HD1.out, ← HD2.out] at HONE0
    clear HD1 HD2 hlen2 hR
    have hR := hR2
    clear hR2
    go_wp2_with fail
    refine (HUD.out U hR1 _ hbW).mono ?_
    rintro e w4 ⟨rfl, hb4⟩
    replace hcb := hcb.below hb4 hcb.lt
    replace hrb := hrb.below hb4 hrb.lt
    replace hbW := hbW.trans (hb4.mono hbW.size)
    clear hb4 HUD hR1
    cases hun : undR U.data.toList with
    | none =>
      rw [hun] at HONE0
      have r0 : w4.cell? ⟨w.heap.size, 0, none⟩ = some (.int .i64 0) := hrb.cell 0
      have r1 : w4.cell? ⟨w.heap.size, 1, none⟩ = some (.int .i64 0) := hrb.cell 1
      have r2 : w4.cell? ⟨w.heap.size, 2, none⟩ = some (.string ⟨#[]⟩) := hrb.cell 2
      have rf0 := hrb.frozen 0
      have rf1 := hrb.frozen 1
      have rf2 := hrb.frozen 2
      have HRZ : Hid (Blk (((w4.setCell ⟨w.heap.size, 0, none⟩ (.int .i64 0)).setCell ⟨w.heap.size, 1, none⟩ (.int .i64 0)).setCell ⟨w.heap.size, 2, none⟩ (.string ⟨#[]⟩)) w.heap.size 35 #[.int .i64 0, .int .i64 0, .string ⟨#[]⟩]) := ((hrb.set_ 0 (.int .i64 0)).set_ 1 (.int .i64 0)).set_ 2 (.string ⟨#[]⟩)
      have hq := HQ.out _ _ (below_set3 hbW (Nat.le_refl _) (.int .i64 0) (.int .i64 0) (.string ⟨#[]⟩)) HONE0.out
      have HQ2 := Lib.hid hq
      clear hq hun HONE0
      unfold undV
      go_wp2
      (try simp only [Exit.inBlock, Exit.then])
      have q0 : (((w4.setCell ⟨w.heap.size, 0, none⟩ (.int .i64 0)).setCell ⟨w.heap.size, 1, none⟩ (.int .i64 0)).setCell ⟨w.heap.size, 2, none⟩ (.string ⟨#[]⟩)).cell? ⟨w.heap.size, 0, none⟩ = some (.int .i64 0) := HRZ.out.cell 0
      have q1 : (((w4.setCell ⟨w.heap.size, 0, none⟩ (.int .i64 0)).setCell ⟨w.heap.size, 1, none⟩ (.int .i64 0)).setCell ⟨w.heap.size, 2, none⟩ (.string ⟨#[]⟩)).cell? ⟨w.heap.size, 1, none⟩ = some (.int .i64 0) := HRZ.out.cell 1
      have q2 : (((w4.setCell ⟨w.heap.size, 0, none⟩ (.int .i64 0)).setCell ⟨w.heap.size, 1, none⟩ (.int .i64 0)).setCell ⟨w.heap.size, 2, none⟩ (.string ⟨#[]⟩)).cell? ⟨w.heap.size, 2, none⟩ = some (.string ⟨#[]⟩) := HRZ.out.cell 2
      refine bodyPost_ret (v := .tuple #[.agg #[.int .i64 0, .int .i64 0, .string ⟨#[]⟩], .int .i64 4]) (by simp [results, Tryz.results20, go_sem, q0, q1, q2]) rfl ?_
      exact HQ2.out
    | some n =>
      rw [hun] at HONE0
      have HONE : Hid (oneR s.data.toList = finC 4 n V.data.toList) := HONE0.out
      have x1 : w4.cell? ⟨w.heap.size + 1, 1, none⟩ = some (.int .i64 0) := hcb.cell 1
      have xf := hcb.frozen 1
      clear hun HONE0
      unfold undV
      go_upto_region 16 with fail
      replace hcb : Blk (w4.setCell ⟨w.heap.size + 1, 1, none⟩ (.int .i64 n)) (w.heap.size + 1) 35 #[.int .i64 4, .int .i64 n, .string ⟨#[]⟩] := hcb.set_ 1 _
      replace hrb := hrb.far (p := ⟨w.heap.size + 1, 1, none⟩) (show w.heap.size ≠ w.heap.size + 1 by omega) (.int .i64 n)
      replace hbW := hbW.setCell (p := ⟨w.heap.size + 1, 1, none⟩) (show w.heap.size ≤ w.heap.size + 1 by omega) (.int .i64 n)
      generalize (w4.setCell ⟨w.heap.size + 1, 1, none⟩ (.int .i64 n)) = w2 at hcb hrb hbW ⊢
      clear x1 xf
      have hzW := hbW.size
      have hcl := hcb.lt
      have hrl := hrb.lt
      go_wp2_with fail
      refine (HUN.out V _ hR).mono ?_
      rintro e w5 ⟨hb5, he⟩
      have hc5 := hcb.below hb5 hcl
      have hr5 := hrb.below hb5 hrl
      have hw5 := hbW.trans (hb5.mono hzW)
      clear hb5 hcb hrb hbW hzW hcl hrl
      have c0 : w5.cell? ⟨w.heap.size + 1, 0, none⟩ = some (.int .i64 4) := hc5.cell 0
      have c1 : w5.cell? ⟨w.heap.size + 1, 1, none⟩ = some (.int .i64 n) := hc5.cell 1
      have c2 : w5.cell? ⟨w.heap.size + 1, 2, none⟩ = some (.string ⟨#[]⟩) := hc5.cell 2
      have cf2 := hc5.frozen 2
      have r0 : w5.cell? ⟨w.heap.size, 0, none⟩ = some (.int .i64 0) := hr5.cell 0
      have r1 : w5.cell? ⟨w.heap.size, 1, none⟩ = some (.int .i64 0) := hr5.cell 1
      have r2 : w5.cell? ⟨w.heap.size, 2, none⟩ = some (.string ⟨#[]⟩) := hr5.cell 2
      have rf0 := hr5.frozen 0
      have rf1 := hr5.frozen 1
      have rf2 := hr5.frozen 2
      have HRZ : Hid (Blk (((w5.setCell ⟨w.heap.size, 0, none⟩ (.int .i64 0)).setCell ⟨w.heap.size, 1, none⟩ (.int .i64 0)).setCell ⟨w.heap.size, 2, none⟩ (.string ⟨#[]⟩)) w.heap.size 35 #[.int .i64 0, .int .i64 0, .string ⟨#[]⟩]) := ((hr5.set_ 0 (.int .i64 0)).set_ 1 (.int .i64 0)).set_ 2 (.string ⟨#[]⟩)
      have hsl := size_list (V)
      cases hu : unlR (V).data.toList with
      | none =>
        have hq := HQ.out _ _ (below_set3 hw5 (Nat.le_refl _) (.int .i64 0) (.int .i64 0) (.string ⟨#[]⟩)) (show oneR s.data.toList = (noC, 4) by rw [HONE.out]; unfold finC unlW; rw [hu])
        have HQ2 := Lib.hid hq
        rw [hu] at he
        dsimp only at he
        subst he
        clear hq hu
        go_wp2
        (try simp only [Exit.inBlock, Exit.then])
        have q0 : (((w5.setCell ⟨w.heap.size, 0, none⟩ (.int .i64 0)).setCell ⟨w.heap.size, 1, none⟩ (.int .i64 0)).setCell ⟨w.heap.size, 2, none⟩ (.string ⟨#[]⟩)).cell? ⟨w.heap.size, 0, none⟩ = some (.int .i64 0) := HRZ.out.cell 0
        have q1 : (((w5.setCell ⟨w.heap.size, 0, none⟩ (.int .i64 0)).setCell ⟨w.heap.size, 1, none⟩ (.int .i64 0)).setCell ⟨w.heap.size, 2, none⟩ (.string ⟨#[]⟩)).cell? ⟨w.heap.size, 1, none⟩ = some (.int .i64 0) := HRZ.out.cell 1
        have q2 : (((w5.setCell ⟨w.heap.size, 0, none⟩ (.int .i64 0)).setCell ⟨w.heap.size, 1, none⟩ (.int .i64 0)).setCell ⟨w.heap.size, 2, none⟩ (.string ⟨#[]⟩)).cell? ⟨w.heap.size, 2, none⟩ = some (.string ⟨#[]⟩) := HRZ.out.cell 2
        refine bodyPost_ret (v := .tuple #[.agg #[.int .i64 0, .int .i64 0, .string ⟨#[]⟩], .int .i64 4]) (by simp [results, Tryz.results20, go_sem, q0, q1, q2]) rfl ?_
        exact HQ2.out
      | some y =>
        obtain ⟨o, c⟩ := y
        rw [hu] at he
        dsimp only at he
        by_cases hn : 1 + c = (V).size
        · have hone : oneR s.data.toList = ((4, n, ⟨o.toArray⟩), fitC (4, n, ⟨o.toArray⟩)) := by rw [HONE.out]; unfold finC unlW; rw [hu]; simp only; rw [if_pos (by rw [hsl]; exact hn)]
          have hni : (((1 + c : Nat) : Int) != ((V).size : Int)) = false := by rw [bne_eq_false_iff_eq]; omega
          have hft := HFT.out 4 n ⟨o.toArray⟩
          generalize (⟨o.toArray⟩ : ByteArray) = O at hone hft he
          generalize fitC (4, n, O) = fx at hone hft
          have HFX := Lib.hid hft
          have HON := Lib.hid hone
          clear hone hft hu hn HONE HFT HUN HRZ
          generalize ((1 + c : Nat) : Int) = z at hni he
          subst he
          go_upto_region 20 with fail
          have hc6 : Blk (w5.setCell ⟨w.heap.size + 1, 2, none⟩ (.string O)) (w.heap.size + 1) 35 #[.int .i64 4, .int .i64 n, .string O] := hc5.set_ 2 _
          have hr6 := hr5.far (p := ⟨w.heap.size + 1, 2, none⟩) (show w.heap.size ≠ w.heap.size + 1 by omega) (.string O)
          have hw6 := hw5.setCell (p := ⟨w.heap.size + 1, 2, none⟩) (show w.heap.size ≤ w.heap.size + 1 by omega) (.string O)
          generalize (w5.setCell ⟨w.heap.size + 1, 2, none⟩ (.string O)) = w6 at hc6 hr6 hw6 ⊢
          clear c0 c1 c2 cf2 r0 r1 r2 rf0 rf1 rf2 hc5 hr5 hw5
          refine wp_region_l (Below w6.heap.size w6) (fun i => i == 3 || i == 4) (by kernel_rfl) ?_
          have hC : Below w6.heap.size w6 w6.drew := (Below.refl _ _).drew
          generalize w6.drew = wd at hC ⊢
          apply L.rdt (i := 0) rfl (by kernel_rfl) hC rfl
          · intro W hW
            have q0 := (hc6.below hW hc6.lt).cell 0; have q1 := (hc6.below hW hc6.lt).cell 1; have q2 := (hc6.below hW hc6.lt).cell 2
            unfold readW
            go_simp
            first | rfl | exact ⟨rfl, rfl⟩
          first | simp only [Act.put, List.setIfInBounds_toArray, List.set_cons_succ, List.set_cons_zero] | skip
          apply L.rdt (i := 1) rfl (by kernel_rfl) hC rfl
          · intro W hW
            have q0 := (hc6.below hW hc6.lt).cell 0; have q1 := (hc6.below hW hc6.lt).cell 1; have q2 := (hc6.below hW hc6.lt).cell 2
            unfold readW
            go_simp
            first | rfl | exact ⟨rfl, rfl⟩
          first | simp only [Act.put, List.setIfInBounds_toArray, List.set_cons_succ, List.set_cons_zero] | skip
          apply L.one (i := 2) rfl (by kernel_rfl) rfl
          unfold stepT
          go_simp
          go_at_call 27
          refine (HFX.out _).mono ?_
          rintro e w7 ⟨rfl, hb7⟩
          replace hC := hC.trans (hb7.mono hC.size)
          refine ⟨_, rfl, hC, ?_⟩
          have hr7 := hr6.below hC hr6.lt
          have hw7 := hw6.trans (hC.mono hw6.size)
          have r0 : w7.cell? ⟨w.heap.size, 0, none⟩ = some (.int .i64 0) := hr7.cell 0
          have r1 : w7.cell? ⟨w.heap.size, 1, none⟩ = some (.int .i64 0) := hr7.cell 1
          have r2 : w7.cell? ⟨w.heap.size, 2, none⟩ = some (.string ⟨#[]⟩) := hr7.cell 2
          have rf0 := hr7.frozen 0
          have rf1 := hr7.frozen 1
          have rf2 := hr7.frozen 2
          have hb8 := below_set3 hw7 (Nat.le_refl _) (.int .i64 4) (.int .i64 n) (.string O)
          have hr8 : Blk (((w7.setCell ⟨w.heap.size, 0, none⟩ (.int .i64 4)).setCell ⟨w.heap.size, 1, none⟩ (.int .i64 n)).setCell ⟨w.heap.size, 2, none⟩ (.string O)) w.heap.size 35 #[.int .i64 4, .int .i64 n, .string O] := ((hr7.set_ 0 (.int .i64 4)).set_ 1 (.int .i64 n)).set_ 2 (.string O)
          have HB8 := Lib.hid hb8
          have HR8 := Lib.hid hr8
          clear hb8 hr8 hr7 hw7 hC hb7
          first | simp only [Act.put, List.setIfInBounds_toArray, List.set_cons_succ, List.set_cons_zero] | skip
          apply L.one (i := 3) rfl (by kernel_rfl) rfl
          unfold stepT
          go_simp
          generalize (((w7.setCell ⟨w.heap.size, 0, none⟩ (.int .i64 4)).setCell ⟨w.heap.size, 1, none⟩ (.int .i64 n)).setCell ⟨w.heap.size, 2, none⟩ (.string O)) = w8 at HB8 HR8 ⊢
          clear r0 r1 r2 rf0 rf1 rf2
          apply L.rdl (i := 4) rfl (by kernel_rfl) rfl
          · intro W
            unfold readW
            go_simp
            first | rfl | exact ⟨rfl, rfl⟩
          first | simp only [Act.put, List.setIfInBounds_toArray, List.set_cons_succ, List.set_cons_zero] | skip
          refine L.done (by kernel_rfl) ?_
          have q0 := HR8.out.cell 0
          have q1 := HR8.out.cell 1
          have q2 := HR8.out.cell 2
          have hq := HQ.out _ _ HB8.out HON.out
          have HQ2 := Lib.hid hq
          clear hq HQ
          go_wp2
          (try simp only [Exit.inBlock, Exit.then])
          refine bodyPost_ret (v := .tuple #[.agg #[.int .i64 4, .int .i64 n, .string O], .int .i64 fx]) (by simp [results, Tryz.results20, go_sem, q0, q1, q2]) rfl ?_
          exact HQ2.out
        · have hq := HQ.out _ _ (below_set3 hw5 (Nat.le_refl _) (.int .i64 0) (.int .i64 0) (.string ⟨#[]⟩)) (show oneR s.data.toList = (noC, 4) by rw [HONE.out]; unfold finC unlW; rw [hu]; simp only; rw [if_neg (by rw [hsl]; exact hn)])
          have HQ2 := Lib.hid hq
          have hni : (((1 + c : Nat) : Int) != ((V).size : Int)) = true := by rw [bne_iff_ne]; omega
          clear hq hu hn
          generalize ((1 + c : Nat) : Int) = z at hni he
          subst he
          go_wp2
          (try simp only [Exit.inBlock, Exit.then])
          have q0 : (((w5.setCell ⟨w.heap.size, 0, none⟩ (.int .i64 0)).setCell ⟨w.heap.size, 1, none⟩ (.int .i64 0)).setCell ⟨w.heap.size, 2, none⟩ (.string ⟨#[]⟩)).cell? ⟨w.heap.size, 0, none⟩ = some (.int .i64 0) := HRZ.out.cell 0
          have q1 : (((w5.setCell ⟨w.heap.size, 0, none⟩ (.int .i64 0)).setCell ⟨w.heap.size, 1, none⟩ (.int .i64 0)).setCell ⟨w.heap.size, 2, none⟩ (.string ⟨#[]⟩)).cell? ⟨w.heap.size, 1, none⟩ = some (.int .i64 0) := HRZ.out.cell 1
          have q2 : (((w5.setCell ⟨w.heap.size, 0, none⟩ (.int .i64 0)).setCell ⟨w.heap.size, 1, none⟩ (.int .i64 0)).setCell ⟨w.heap.size, 2, none⟩ (.string ⟨#[]⟩)).cell? ⟨w.heap.size, 2, none⟩ = some (.string ⟨#[]⟩) := HRZ.out.cell 2
          refine bodyPost_ret (v := .tuple #[.agg #[.int .i64 0, .int .i64 0, .string ⟨#[]⟩], .int .i64 4]) (by simp [results, Tryz.results20, go_sem, q0, q1, q2]) rfl ?_
          exact HQ2.out
  · have HONE : Hid (oneR s.data.toList = (noC, 4)) := by show _ = _; unfold oneR; rw [if_neg hA, if_neg hR', if_neg hP]
    have hAA : ((⟨(cutP s.data.toList).1.toArray⟩ : ByteArray).toList == [97, 99, 99, 101, 112, 116]) = false := by rw [HDA.out.1, beq_eq_false_iff_ne]; exact hA
    have hAR : ((⟨(cutP s.data.toList).1.toArray⟩ : ByteArray).toList == [114, 101, 106, 101, 99, 116]) = false := by rw [HDA.out.1, beq_eq_false_iff_ne]; exact hR'
    have hAP : ((⟨(cutP s.data.toList).1.toArray⟩ : ByteArray).toList == [112, 114, 101, 102, 105, 120]) = false := by rw [HDA.out.1, beq_eq_false_iff_ne]; exact hP
    generalize (⟨(cutP s.data.toList).1.toArray⟩ : ByteArray) = A at *
    generalize (⟨(cutP s.data.toList).2.toArray⟩ : ByteArray) = R at *
    clear hA hR' hP
    have r0 : w1.cell? ⟨w.heap.size, 0, none⟩ = some (.int .i64 0) := hrb.cell 0
    have r1 : w1.cell? ⟨w.heap.size, 1, none⟩ = some (.int .i64 0) := hrb.cell 1
    have r2 : w1.cell? ⟨w.heap.size, 2, none⟩ = some (.string ⟨#[]⟩) := hrb.cell 2
    have rf0 := hrb.frozen 0
    have rf1 := hrb.frozen 1
    have rf2 := hrb.frozen 2
    have HRZ : Hid (Blk (((w1.setCell ⟨w.heap.size, 0, none⟩ (.int .i64 0)).setCell ⟨w.heap.size, 1, none⟩ (.int .i64 0)).setCell ⟨w.heap.size, 2, none⟩ (.string ⟨#[]⟩)) w.heap.size 35 #[.int .i64 0, .int .i64 0, .string ⟨#[]⟩]) := ((hrb.set_ 0 (.int .i64 0)).set_ 1 (.int .i64 0)).set_ 2 (.string ⟨#[]⟩)
    have hq := HQ.out _ _ (below_set3 hbW (Nat.le_refl _) (.int .i64 0) (.int .i64 0) (.string ⟨#[]⟩)) HONE.out
    have HQ2 := Lib.hid hq
    clear hq HONE
    go_wp2
    (try simp only [Exit.inBlock, Exit.then])
    have q0 : (((w1.setCell ⟨w.heap.size, 0, none⟩ (.int .i64 0)).setCell ⟨w.heap.size, 1, none⟩ (.int .i64 0)).setCell ⟨w.heap.size, 2, none⟩ (.string ⟨#[]⟩)).cell? ⟨w.heap.size, 0, none⟩ = some (.int .i64 0) := HRZ.out.cell 0
    have q1 : (((w1.setCell ⟨w.heap.size, 0, none⟩ (.int .i64 0)).setCell ⟨w.heap.size, 1, none⟩ (.int .i64 0)).setCell ⟨w.heap.size, 2, none⟩ (.string ⟨#[]⟩)).cell? ⟨w.heap.size, 1, none⟩ = some (.int .i64 0) := HRZ.out.cell 1
    have q2 : (((w1.setCell ⟨w.heap.size, 0, none⟩ (.int .i64 0)).setCell ⟨w.heap.size, 1, none⟩ (.int .i64 0)).setCell ⟨w.heap.size, 2, none⟩ (.string ⟨#[]⟩)).cell? ⟨w.heap.size, 2, none⟩ = some (.string ⟨#[]⟩) := HRZ.out.cell 2
    refine bodyPost_ret (v := .tuple #[.agg #[.int .i64 0, .int .i64 0, .string ⟨#[]⟩], .int .i64 4]) (by simp [results, Tryz.results20, go_sem, q0, q1, q2]) rfl ?_
    exact HQ2.out
end Go.Proofs.YtndhbdbfjkmloaaGreatDoor
namespace Go.Proofs.YtndhbdbfjkmloaaGreatDoor
open Go.Shelf
def sh_lays146_ren : Go.Shelf.Ren := ⟨fun | 146 => 19 | 221 => 30 | 268 => 46 | 138 => 47 | 143 => 48 | 195 => 62 | 197 => 63 | 218 => 64 | 219 => 65 | 260 => 86 | 217 => 61 | 225 => 87 | 224 => 88 | 267 => 89 | 266 => 85 | 314 => 105 | n => n, fun | 9 => 9 | 31 => 29 | 3 => 3 | 4 => 4 | 0 => 0 | 105 => 126 | 21 => 21 | 5 => 5 | 46 => 104 | 119 => 165 | 139 => 168 | 138 => 167 | 146 => 169 | 51 => 161 | n => n, fun | 1 => 0 | 3 => 2 | 4 => 3 | n => n⟩
theorem sh_lays146 : Go.Proofs.Lays.n146 Tryz.prog sh_lays146_ren := {
  mixed := by kernel_rfl
  f138 := Tryz.func47.trans (congrArg some (by kernel_rfl))
  f143 := Tryz.func48.trans (congrArg some (by kernel_rfl))
  f146 := Tryz.func19.trans (congrArg some (by kernel_rfl))
  f195 := Tryz.func62.trans (congrArg some (by kernel_rfl))
  f197 := Tryz.func63.trans (congrArg some (by kernel_rfl))
  f217 := Tryz.func61.trans (congrArg some (by kernel_rfl))
  f218 := Tryz.func64.trans (congrArg some (by kernel_rfl))
  f219 := Tryz.func65.trans (congrArg some (by kernel_rfl))
  f221 := Tryz.func30.trans (congrArg some (by kernel_rfl))
  f224 := Tryz.func88.trans (congrArg some (by kernel_rfl))
  f225 := Tryz.func87.trans (congrArg some (by kernel_rfl))
  f260 := Tryz.func86.trans (congrArg some (by kernel_rfl))
  f266 := Tryz.func85.trans (congrArg some (by kernel_rfl))
  f267 := Tryz.func89.trans (congrArg some (by kernel_rfl))
  f268 := Tryz.func46.trans (congrArg some (by kernel_rfl))
  f314 := Tryz.func105.trans (congrArg some (by kernel_rfl))
  t0 := Tryz.underlying0
  a0 := Tryz.isAgg0
  z0 := Tryz.sizeOf0
  v0 := Tryz.zeroValue0
  t3 := Tryz.underlying3
  a3 := Tryz.isAgg3
  z3 := Tryz.sizeOf3
  v3 := Tryz.zeroValue3
  t4 := Tryz.underlying4
  a4 := Tryz.isAgg4
  z4 := Tryz.sizeOf4
  v4 := Tryz.zeroValue4
  t5 := Tryz.underlying5
  a5 := Tryz.isAgg5
  z5 := Tryz.sizeOf5
  v5 := Tryz.zeroValue5
  t9 := Tryz.underlying9
  a9 := Tryz.isAgg9
  z9 := Tryz.sizeOf9
  v9 := Tryz.zeroValue9
  t21 := Tryz.underlying21
  a21 := Tryz.isAgg21
  z21 := Tryz.sizeOf21
  v21 := Tryz.zeroValue21
  t31 := Tryz.underlying29
  a31 := Tryz.isAgg29
  z31 := Tryz.sizeOf29
  v31 := Tryz.zeroValue29
  t46 := Tryz.underlying104
  a46 := Tryz.isAgg104
  z46 := Tryz.sizeOf104
  v46 := Tryz.zeroValue104
  t51 := Tryz.underlying161
  a51 := Tryz.isAgg161
  z51 := Tryz.sizeOf161
  v51 := Tryz.zeroValue161
  t105 := Tryz.underlying126
  a105 := Tryz.isAgg126
  z105 := Tryz.sizeOf126
  v105 := Tryz.zeroValue126
  t119 := Tryz.underlying165
  a119 := Tryz.isAgg165
  z119 := Tryz.sizeOf165
  t138 := Tryz.underlying167
  a138 := Tryz.isAgg167
  z138 := Tryz.sizeOf167
  v138 := Tryz.zeroValue167
  t139 := Tryz.underlying168
  a139 := Tryz.isAgg168
  z139 := Tryz.sizeOf168
  v139 := Tryz.zeroValue168
  t146 := Tryz.underlying169
  a146 := Tryz.isAgg169
  z146 := Tryz.sizeOf169
  v146 := Tryz.zeroValue169
  g1 := by kernel_rfl
  g3 := by kernel_rfl
  g4 := by kernel_rfl }
open Go.RowKit Go.Lib in
theorem sh_strings_Split (s sep : ByteArray) (m : Int) (w : World) (hs : s.size < 4294967281) (hm : w.cell? ⟨0, 0, none⟩ = some (.int .i64 m)) (h1 : 1 ≤ sep.size) :
    Calls Tryz.prog 19 #[.string s, .string sep] w fun e w' =>
      e = .returned (.slice (some ⟨w.heap.size, 0, none⟩) (Lib.countB s sep + 1) (Lib.countB s sep + 1)) ∧ w' = w.alloc (.cells ((Lib.splitB sep 0 (Lib.countB s sep) s).map Value.string).toArray 9) := Any.strings_Split sh_lays146 (by kernel_rfl) s sep m w hs hm h1
end Go.Proofs.YtndhbdbfjkmloaaGreatDoor
