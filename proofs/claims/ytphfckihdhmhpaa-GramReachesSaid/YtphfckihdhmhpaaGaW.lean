/- What gram.Reach answers; slices.Equal and slices.Contains of bools. -/
import Derived.Test.YtphfckihdhmhpaaGaV
import Derived.Laws.EntriesVeiled
namespace Go.Proofs.Ytphfckihdhmhpaa
open Go.RowKit

theorem bool_info : (Try.prog.info? 4).map (fun i => (i.zero, i.size, i.bytes)) = some (some (.bool false), 1, 1) := by kernel_rfl
theorem made_bls (n : Nat) : madeCells (Value.bool false).cells (n * 1) = (bls (List.replicate n false)).toArray := by
  apply Array.ext
  · simp [size_madeCells, bls]
  · intro i h1 h2
    simp [madeCells, Value.cells, bls, Nat.mod_one]
/-- what gram.Reach leaves -/
def ReachQ (g : List Rl) (w : World) (e : Ending) (w' : World) : Prop := ∃ V n c l, e = .returned (.tuple #[.slice V n c, .int .i64 (checkG g)]) ∧ l = (if checkG g = 0 then reachG g else []) ∧ l.length = n ∧ Reads w' w'.heap.size 1 V n (bls l) ∧ Below w.heap.size w w'
theorem bls_len (l : List Bool) : (bls l).length = l.length := by simp [bls]
theorem Reads.bool_at {w : World} {B n k : Nat} {A : Option Addr} {l : List Bool} (h : Reads w B 1 A n (bls l)) (hk : k < n) :
    ∃ ad b, A = some ad ∧ ad.block < B ∧ l[k]? = some b ∧ w.cell? (ad.add k) = some (.bool b) := by
  obtain ⟨ad, u, e, hb, hx, hc⟩ := h.at_ hk
  simp only [bls, List.getElem?_map, Option.map_eq_some_iff] at hx
  obtain ⟨b, hb', rfl⟩ := hx
  exact ⟨ad, b, e, hb, hb', hc⟩

set_option maxRecDepth 100000 in
set_option maxHeartbeats 4000000 in
theorem reach_any {g : List Rl} {A : Option Addr} {cp : Nat} {row : Nat → List Value} {w : World} (h : GrIs w w.heap.size g A cp row) :
    Calls Try.prog 14 #[.agg #[.slice A g.length cp]] w (ReachQ g w) := by
  have hmf : ∀ (fn : Fn) (first cap : Array Value) (w : World), (Instr.makeFunc fn first cap).run Try.prog w = .ok (.func fn first cap) w := fun _ _ _ _ => rfl
  have hck := fun W (hW : Below w.heap.size w W) => gcheck_any ((h.on hW).more hW.size)
  have HCK := Lib.hid hck
  have HG := Lib.hid h
  clear hck h
  by_cases h0 : checkG g = 0
  · have R := right_of h0
    have h10 := R.ten
    have hpos := R.pos
    obtain ⟨i0, hi, hz0, hz1, hz2⟩ := info_parts bool_info
    have hmk := fun W => made_run Try.underlying25 hi hz0 .i64 .i64 (n := g.length) (c := g.length) (Nat.le_refl _) (by rw [hz2]; omega) (by omega) W
    rw [hz1, made_bls] at hmk
    have HC := Lib.hid h0
    rw [h0] at HCK
    clear h0 R hi hz0 hz1 hz2
    go_enter Try.func14, Try.ntmps14
    go_wp2_with fail
    refine (HCK.out _ (by repeat (first | exact Below.refl _ _ | assumption | refine Below.drew ?_ | refine below_drewN ?_ _ | refine Below.alloc ?_ (by first | omega | (simp; omega) | simp) _ | refine Below.setCell ?_ (by first | omega | (simp; omega) | simp) _))).mono ?_
    rintro e w1 ⟨rfl, hb1⟩
    have hbg : Blk w1 w.heap.size 24 #[.slice A g.length cp] := (blk_at rfl).below hb1 (by simp)
    have hw1 : Below w.heap.size w w1 := ((Below.refl _ w).alloc (Nat.le_refl _) _).trans (hb1.mono (by simp))
    have g0 : w1.cell? ⟨w.heap.size, 0, none⟩ = some (.slice A g.length cp) := hbg.cell 0
    have hs1 := hbg.lt
    clear hb1
    go_upto_region 6 with fail
    have hO : Blk (((w1.alloc (.cells (bls (List.replicate g.length false)).toArray 4)).alloc (.cells #[.slice (some ⟨w1.heap.size, 0, none⟩) g.length g.length] 25)).alloc (.cells #[.nilFunc] 104)) w1.heap.size 4 (bls (List.replicate g.length false)).toArray := ((blk_at rfl).alloc _).alloc _
    have hbo : Blk (((w1.alloc (.cells (bls (List.replicate g.length false)).toArray 4)).alloc (.cells #[.slice (some ⟨w1.heap.size, 0, none⟩) g.length g.length] 25)).alloc (.cells #[.nilFunc] 104)) (w1.heap.size + 1) 25 #[.slice (some ⟨w1.heap.size, 0, none⟩) g.length g.length] := (blk_at (by simp)).alloc _
    have hbv : Blk (((w1.alloc (.cells (bls (List.replicate g.length false)).toArray 4)).alloc (.cells #[.slice (some ⟨w1.heap.size, 0, none⟩) g.length g.length] 25)).alloc (.cells #[.nilFunc] 104)) (w1.heap.size + 1 + 1) 104 #[.nilFunc] := blk_at (by simp)
    have hgg := ((hbg.alloc (.cells (bls (List.replicate g.length false)).toArray 4)).alloc (.cells #[.slice (some ⟨w1.heap.size, 0, none⟩) g.length g.length] 25)).alloc (.cells #[.nilFunc] 104)
    have hw3 : Below w.heap.size w (((w1.alloc (.cells (bls (List.replicate g.length false)).toArray 4)).alloc (.cells #[.slice (some ⟨w1.heap.size, 0, none⟩) g.length g.length] 25)).alloc (.cells #[.nilFunc] 104)) := ((hw1.alloc (by omega) _).alloc (by simp; omega) _).alloc (by simp; omega) _
    generalize (((w1.alloc (.cells (bls (List.replicate g.length false)).toArray 4)).alloc (.cells #[.slice (some ⟨w1.heap.size, 0, none⟩) g.length g.length] 25)).alloc (.cells #[.nilFunc] 104)) = W3 at hO hbo hbv hgg hw3 ⊢
    generalize w1.heap.size = s1 at hO hbo hbv hs1 hmk ⊢
    have n0 := hbv.cell 0
    have f0 := hbv.frozen 0
    have hv1 := hbv.set_ 0 (.func (.func 52) #[] #[.pointer (some ⟨s1 + 1, 0, none⟩), .pointer (some ⟨w.heap.size, 0, none⟩), .pointer (some ⟨s1 + 1 + 1, 0, none⟩)])
    have ho1 := hO.far (p := ⟨s1 + 1 + 1, 0, none⟩) (by simp; omega) (.func (.func 52) #[] #[.pointer (some ⟨s1 + 1, 0, none⟩), .pointer (some ⟨w.heap.size, 0, none⟩), .pointer (some ⟨s1 + 1 + 1, 0, none⟩)])
    have hb1 := hbo.far (p := ⟨s1 + 1 + 1, 0, none⟩) (by simp) (.func (.func 52) #[] #[.pointer (some ⟨s1 + 1, 0, none⟩), .pointer (some ⟨w.heap.size, 0, none⟩), .pointer (some ⟨s1 + 1 + 1, 0, none⟩)])
    have hg1 := hgg.far (p := ⟨s1 + 1 + 1, 0, none⟩) (by simp; omega) (.func (.func 52) #[] #[.pointer (some ⟨s1 + 1, 0, none⟩), .pointer (some ⟨w.heap.size, 0, none⟩), .pointer (some ⟨s1 + 1 + 1, 0, none⟩)])
    have hw4 := hw3.setCell (p := ⟨s1 + 1 + 1, 0, none⟩) (by simp; omega) (.func (.func 52) #[] #[.pointer (some ⟨s1 + 1, 0, none⟩), .pointer (some ⟨w.heap.size, 0, none⟩), .pointer (some ⟨s1 + 1 + 1, 0, none⟩)])
    have n1 := hv1.cell 0
    have hV : VisC (W3.setCell ⟨s1 + 1 + 1, 0, none⟩ (.func (.func 52) #[] #[.pointer (some ⟨s1 + 1, 0, none⟩), .pointer (some ⟨w.heap.size, 0, none⟩), .pointer (some ⟨s1 + 1 + 1, 0, none⟩)])) g.length A cp s1 (s1 + 1) w.heap.size (s1 + 1 + 1) := ⟨hb1, hg1, hv1, by omega, by omega, by omega⟩
    have HV := Lib.hid hV
    have HO := Lib.hid ho1
    have HW4 := Lib.hid hw4
    clear hV ho1 hw4 hb1 hg1 hv1 hO hbo hbv hgg hw3 hmk
    go_wp2_with fail
    refine (visit_any HC.out w.heap.size s1 (s1 + 1) w.heap.size (s1 + 1 + 1) (by omega) 10 _ 0 _ (HG.out.on HW4.out) HV.out HO.out (List.length_replicate ..) hpos (by rw [List.count_replicate_self]; exact h10)).mono ?_
    rintro e w5 ⟨rfl, ho5, hw5⟩
    have hV5 := HV.out.on hw5
    have g0 := hV5.o.cell 0
    have hW5 : Below w.heap.size w w5 := HW4.out.trans (hw5.below (by omega) HW4.out.size)
    have hl5 := ho5.lt
    have HO5 := Lib.hid ho5
    have HW5 := Lib.hid hW5
    clear ho5 hw5 hV5 hW5 HV HO HW4 n0 f0 n1
    go_wp2
    go_ret2
    exact ⟨_, _, _, reachG g, by rw [HC.out]; rfl, by rw [if_pos HC.out], reach_len g, ⟨by rw [bls_len, reach_len]; omega, fun _ => ⟨_, rfl, hl5, fun j u hu => by rw [cell_add]; exact (HO5.out.cell j).trans (by rw [List.getElem?_toArray]; exact hu)⟩⟩, HW5.out⟩
  · have h0' : (checkG g != 0) = true := by rw [bne_iff_ne]; exact h0
    have HQ : Hid (∀ w', Below w.heap.size w w' → ReachQ g w (.returned (.tuple #[.slice none 0 0, .int .i64 (checkG g)])) w') := fun w' hb => ⟨none, 0, 0, [], rfl, by rw [if_neg h0], rfl, Reads.none_, hb⟩
    generalize ReachQ g w = Q at HQ ⊢
    generalize checkG g = x at HQ HCK h0'
    clear h0
    go_enter Try.func14, Try.ntmps14
    go_wp2_with fail
    refine (HCK.out _ (by repeat (first | exact Below.refl _ _ | assumption | refine Below.drew ?_ | refine below_drewN ?_ _ | refine Below.alloc ?_ (by first | omega | (simp; omega) | simp) _ | refine Below.setCell ?_ (by first | omega | (simp; omega) | simp) _))).mono ?_
    rintro e w1 ⟨rfl, hb1⟩
    have hw1 : Below w.heap.size w w1 := ((Below.refl _ w).alloc (Nat.le_refl _) _).trans (hb1.mono (by simp))
    clear hb1
    go_wp2
    exact HQ.out _ hw1

set_option maxRecDepth 100000 in
theorem equalBo_any (A A' : Option Addr) (n c n' c' : Nat) (zs ys : List Bool) (B B' : Nat) (w : World) (hr : Reads w B 1 A n (bls zs)) (hr' : Reads w B' 1 A' n' (bls ys)) (hn : n ≤ 1000) (hz : zs = ys) :
    Calls Try.prog 15 #[.slice A n c, .slice A' n' c'] w fun e w' => e = .returned (.bool true) ∧ ∃ d, w' = w.drewN d := by
  subst hz
  obtain rfl : n = n' := by have h1 := hr.len; have h2 := hr'.len; omega
  go_enter Try.func15, Try.ntmps15
  go_wp2
  go_loopw [5, 13] (fun _ i wr => ∃ j d : Nat, j ≤ n ∧ i = .int .i64 j ∧ wr = w.drewN d) (fun _ i _ => n - (intOf i).toNat)
  case atStart => exact ⟨0, 0, by omega, rfl, rfl⟩
  case round =>
    obtain ⟨j, d, hj, rfl, rfl⟩ := hrel
    by_cases hjn : j < n
    · obtain ⟨ad, x, rfl, hab, hx, hc⟩ := hr.bool_at hjn
      obtain ⟨ad', x', rfl, hab', hx', hc'⟩ := hr'.bool_at hjn
      rw [hx] at hx'
      injection hx' with hx'
      subst hx'
      clear hx
      go_wp2
      go_quiet (fail)
      go_wp2
      go_roundw
      case rel => exact ⟨j + 1, _, by omega, by go_num, rfl⟩
      case measure => simp [intOf]; omega
    · go_wp2
      go_ret
      exact ⟨rfl, _, rfl⟩
set_option maxRecDepth 100000 in
theorem indexBo_any (A : Option Addr) (n c m : Nat) (B : Nat) (w : World) (hr : Reads w B 1 A n (bls (List.replicate m true))) (hn : n ≤ 1000) :
    Calls Try.prog 55 #[.slice A n c, .bool false] w fun e w' => e = .returned (.int .i64 (-1)) ∧ w = w' := by
  go_enter Try.func55, Try.ntmps55
  go_wp2
  go_loop [5, 8] (fun _ i => ∃ k : Nat, k ≤ n ∧ i = .int .i64 k) (fun _ i => n - (intOf i).toNat)
  case atStart => exact ⟨0, by omega, rfl⟩
  case round =>
    obtain ⟨k, hk, rfl⟩ := hrel
    by_cases hkn : k < n
    · obtain ⟨ad, z, rfl, hb, hz, hc⟩ := hr.bool_at hkn
      obtain rfl : z = true := by
        rw [List.getElem?_replicate] at hz
        split at hz
        · injection hz with hz; exact hz.symm
        · cases hz
      clear hz
      go_wp2
      go_round
      case rel => exact ⟨k + 1, by omega, by go_num⟩
      case measure => simp [intOf]; omega
    · go_wp2
      go_ret
      exact ⟨rfl, rfl⟩
theorem containsBo_any (A : Option Addr) (n c m : Nat) (B : Nat) (w : World) (hr : Reads w B 1 A n (bls (List.replicate m true))) (hn : n ≤ 1000) :
    Calls Try.prog 16 #[.slice A n c, .bool false] w fun e w' => e = .returned (.bool false) ∧ w = w' := by
  go_enter Try.func16, Try.ntmps16
  go_wp2_with fail
  refine (indexBo_any A n c m B _ hr hn).mono ?_
  rintro e w' ⟨rfl, rfl⟩
  go_wp2
  go_ret
  exact ⟨rfl, rfl⟩
end Go.Proofs.Ytphfckihdhmhpaa
