/- list.Texts as an iterator: it hands on all texts from one on, in order. -/
import Derived.Test.YtkmcnekjimobhaaLsP
import Derived.RangeFuncNested
import Derived.RangeFuncBound
import Derived.RangeFuncCalls
import Derived.RangeFuncLeaves
import Derived.Shelf.Abstract
import Derived.Shelf.RegionOpen
import Derived.OwnWalkIn
import Derived.TacticsInMore
import Derived.LoopNIn
import Derived.LoopIn
namespace Go.Proofs.Ytkmcnekjimobhaa
open Go.RowKit Go.Shelf

attribute [local go_sem] Oper.semAt_some

def strOf : Value → ByteArray
  | .string s => s
  | _ => ⟨#[]⟩
theorem textsL_at {a : List UInt8} {s : List UInt8} {n j : Nat} {u : ByteArray} (hu : OverOk a u.data.toList) (hr : rank a u.data.toList = rank a s + j) (hn : u.size ≤ n) : (textsL a s n)[j]? = some u := by
  have h := (rank_many hu.2.2 n).2 (by rw [size_list]; exact hn)
  rw [textsL_get (by omega), ← hr, textOf_is hu]
theorem texts_end {a : List UInt8} {s : List UInt8} {n j : Nat} {u : ByteArray} (hu : OverOk a u.data.toList) (hr : rank a u.data.toList = rank a s + j) (hn : ¬ u.size ≤ n) (hj : j ≤ (textsL a s n).length) (hs : OverA a s) (hsn : s.length ≤ n) : j = (textsL a s n).length := by
  have h : ¬ rank a u.data.toList < shN a.length (n + 1) := fun h => hn (by have := (rank_many hu.2.2 n).1 h; rwa [size_list] at this)
  have h2 := (rank_many hs n).2 hsn
  rw [textsL_len] at hj ⊢
  omega

/-- three boxes stay as they are -/
structure KeepT (b : Nat) (W W' : World) : Prop where
  size : W.heap.size ≤ W'.heap.size
  blk : ∀ k, b ≤ k → k < b + 3 → W'.heap[k]? = W.heap[k]?
theorem KeepT.refl (b : Nat) (W : World) : KeepT b W W := ⟨Nat.le_refl _, fun _ _ _ => rfl⟩
theorem KeepT.trans {b : Nat} {A B C : World} (h : KeepT b A B) (h' : KeepT b B C) : KeepT b A C := ⟨Nat.le_trans h.size h'.size, fun k h1 h2 => (h'.blk k h1 h2).trans (h.blk k h1 h2)⟩
theorem KeepT.below {b : Nat} {W W' : World} (h : Below W.heap.size W W') (hb : b + 3 ≤ W.heap.size) : KeepT b W W' := ⟨h.size, fun k _ h2 => h.block k (by omega)⟩
theorem KeepT.cell {b : Nat} {W W' : World} (h : KeepT b W W') {k o : Nat} (h1 : b ≤ k) (h2 : k < b + 3) : W'.cell? ⟨k, o, none⟩ = W.cell? ⟨k, o, none⟩ := World.cell?_of_block (h.blk k h1 h2)
theorem KeepT.put {b : Nat} {w : World} (hb : b + 3 ≤ w.heap.size) (W : World) (l : Nat) (o o' : Obj) (hl : w.heap.size ≤ l) (_ : W.heap[l]? = some o) (_ : o.isCells = false) (_ : o.isWalk = false) : KeepT b W (W.putObj l o') :=
  ⟨by simp, fun k _ h2 => World.putObj_heap_other (by omega)⟩

set_option maxRecDepth 100000 in
set_option maxHeartbeats 4000000 in
theorem texts1_in (n l : Nat) (a s : ByteArray) (k : Nat) (hk : k ≤ 6) (ha : a.size ≤ 140737488351232) (hs : OverOk a.data.toList s.data.toList) (hsk : s.size ≤ k) (B : Nat) (J Jx : List ByteArray → World → Prop)
    (W : World) (hB : B + 3 ≤ W.heap.size) (hA : AbidesFrom W.heap.size J) (c1 : W.cell? ⟨B, 0, none⟩ = some (.string a)) (c2 : W.cell? ⟨B + 1, 0, none⟩ = some (.string s)) (c3 : W.cell? ⟨B + 1 + 1, 0, none⟩ = some (.int .i64 k))
    (hY : ∀ pre x W1, J pre W1 → pre.length < (textsL a.data.toList s.data.toList k).length → YieldAt Fence.wide (n - 1) Try.prog l #[.string x] W1 fun e W' =>
      (e = .returned (.bool true) ∧ J (pre ++ [x]) W' ∧ KeepT B W1 W') ∨ (e = .returned (.bool false) ∧ Jx (pre ++ [x]) W'))
    (h0 : J [] W) :
    CallsIn Fence.wide n Try.prog 100 #[.func (.yield l) #[] #[], .pointer (some ⟨B + 1, 0, none⟩), .pointer (some ⟨B + 1 + 1, 0, none⟩), .pointer (some ⟨B, 0, none⟩)] W fun e W' => (∃ v, e = .returned v) ∧
      ((∃ ys, ys = textsL a.data.toList s.data.toList k ∧ J ys W') ∨ (∃ pre, (∃ j, j < (textsL a.data.toList s.data.toList k).length ∧ pre = (textsL a.data.toList s.data.toList k).take (j + 1)) ∧ Jx pre W')) := by
  obtain ⟨T, hT⟩ : ∃ T, textsL a.data.toList s.data.toList k = T := ⟨_, rfl⟩
  have hnx := fun u W => next_any a u W ha
  have HT := Lib.hid hT
  have HNX := Lib.hid hnx
  have HS := Lib.hid hs
  have HYY := Lib.hid hY
  have HA := Lib.hid hA
  rw [hT]
  rw [hT] at HYY
  clear hT hnx hY hs hA
  have hd1 : Fence.wide.depth.isSome = true → 1 ≤ n := fun h => by (rw [show Fence.wide.depth = none from rfl] at h; cases h)
  refine callsIn_of_wp Try.func100 rfl trivial ?_ rfl
  simp only [Try.ntmps100, List.size_toArray, List.length_cons, List.length_nil, Nat.reduceAdd, Nat.reduceSub, Array.replicate_succ, Array.replicate_zero, List.push_toArray, List.append_toArray, List.nil_append, List.cons_append]
  gi_wp2
  gi_loopw [5] (fun i wr => ∃ (j : Nat) (u : ByteArray), j ≤ T.length ∧ i = .string u ∧ Hid (OverOk a.data.toList u.data.toList ∧ rank a.data.toList u.data.toList = rank a.data.toList s.data.toList + j) ∧ J (T.take j) wr ∧ KeepT B W wr) (fun i _ => shN a.data.toList.length 7 + 1 - rank a.data.toList (strOf i).data.toList)
  case atStart => exact ⟨0, s, Nat.zero_le _, rfl, ⟨HS.out, rfl⟩, h0, KeepT.refl _ _⟩
  case round =>
    obtain ⟨j, u, hj, rfl, HU, hJ, hwr⟩ := hrel
    have d1 : wr.cell? ⟨B, 0, none⟩ = some (.string a) := (hwr.cell (by omega) (by omega)).trans c1
    have d2 : wr.cell? ⟨B + 1, 0, none⟩ = some (.string s) := (hwr.cell (by omega) (by omega)).trans c2
    have d3 : wr.cell? ⟨B + 1 + 1, 0, none⟩ = some (.int .i64 k) := (hwr.cell (by omega) (by omega)).trans c3
    have hu60 : u.size ≤ 140737488351232 := by have := HU.out.1.2.1; rw [size_list] at this; omega
    by_cases huk : u.size ≤ k
    · have huki : ((u.size : Nat) : Int) ≤ ((k : Nat) : Int) := by omega
      have hTj := textsL_at HU.out.1 HU.out.2 huk
      rw [HT.out] at hTj
      have hjT := getElem?_lt hTj
      have hyy := HYY.out (T.take j) u wr hJ (by rw [List.length_take]; omega)
      rw [← take_succ_of hTj] at hyy
      obtain ⟨fn, tmps, assign, body, hy, hR⟩ := hyy
      have HTJ := Lib.hid hTj
      clear hTj
      gi_wp2
      refine ⟨hd1, hR.mono ?_⟩
      clear hR hy
      rintro e' W1 (⟨rfl, hJ1, hb1⟩ | ⟨rfl, hx1⟩)
      · have hw1 : KeepT B W W1 := hwr.trans hb1
        have e1 : W1.cell? ⟨B, 0, none⟩ = some (.string a) := (hw1.cell (by omega) (by omega)).trans c1
        have e3 : W1.cell? ⟨B + 1 + 1, 0, none⟩ = some (.int .i64 k) := (hw1.cell (by omega) (by omega)).trans c3
        clear hb1 d1 d2 d3
        gi_wp2_with (refine ⟨trivial, hd1, ?_⟩; gi_at_call 101; refine (callsIn_wide.2 (HNX.out u W1 hu60 HU.out.1)).mono ?_; rintro e' w2 ⟨⟨u', rfl, hu', hr'⟩ | ⟨rfl, h6, h7⟩, hb2⟩)
        · have hJ2 : J (T.take (j + 1)) w2 := HA.out _ _ _ none hJ1 (grown_of_below hb2 none) (fun r e => by cases e)
          have hw2 : KeepT B W w2 := hw1.trans (KeepT.below hb2 (by have := hw1.size; omega))
          have HU' := Lib.hid hu'
          have HR' := Lib.hid hr'
          clear hu' hr' hb2
          gi_wp2
          go_roundw
          case rel => exact ⟨j + 1, u', by omega, rfl, ⟨HU'.out, by rw [HR'.out, HU.out.2, Nat.add_assoc]⟩, hJ2, hw2⟩
          case measure =>
            have h1 := HR'.out
            have h2 := (rank_bd HU'.out.2.2).2
            have h3 := shN_mono (m := a.data.toList.length) (show u'.data.toList.length + 1 ≤ 7 by have := HU'.out.2.1; omega)
            simp only [strOf]
            omega
        · have hJ2 : J (T.take (j + 1)) w2 := HA.out _ _ _ none hJ1 (grown_of_below hb2 none) (fun r e => by cases e)
          have hw2 : KeepT B W w2 := hw1.trans (KeepT.below hb2 (by have := hw1.size; omega))
          have hfin : T.take (j + 1) = T := by
            refine List.take_of_length_le ?_
            rw [← HT.out, textsL_len]
            have := shN_mono (m := a.data.toList.length) (show k + 1 ≤ 7 by omega)
            have := HU.out.2
            omega
          rw [hfin] at hJ2
          clear hb2 h6 h7 hfin
          gi_wp2
          refine bodyPost_ret (results_none rfl _ _ _) rfl ?_
          exact ⟨⟨_, rfl⟩, .inl ⟨_, rfl, hJ2⟩⟩
      · clear d1 d2 d3
        gi_wp2
        refine bodyPost_ret (results_none rfl _ _ _) rfl ?_
        exact ⟨⟨_, rfl⟩, .inr ⟨_, ⟨j, hjT, rfl⟩, hx1⟩⟩
    · have huki : (((u.size : Nat) : Int) ≤ ((k : Nat) : Int)) = False := by simp; omega
      have hfin : j = T.length := by
        have := texts_end HU.out.1 HU.out.2 huk (by rw [HT.out]; exact hj) HS.out.2.2 (by rw [size_list]; exact hsk)
        rw [HT.out] at this
        exact this
      have hJ2 : J T wr := by rw [hfin, List.take_length] at hJ; exact hJ
      clear hfin hJ
      gi_wp2
      go_end0
      exact ⟨⟨_, rfl⟩, .inl ⟨_, rfl, hJ2⟩⟩

set_option maxHeartbeats 1000000 in
theorem textsf_in (n : Nat) (a s : ByteArray) (k : Int) (w : World) :
    CallsIn Fence.wide n Try.prog 71 #[.string a, .string s, .int .i64 k] w fun e w' =>
      e = .returned (.func (.func 100) #[] #[.pointer (some ⟨w.heap.size + 1, 0, none⟩), .pointer (some ⟨w.heap.size + 1 + 1, 0, none⟩), .pointer (some ⟨w.heap.size, 0, none⟩)]) ∧
      w' = ((w.alloc (.cells #[.string a] 9)).alloc (.cells #[.string s] 9)).alloc (.cells #[.int .i64 k] 3) := by
  refine callsIn_of_wp Try.func71 rfl trivial ?_ rfl
  simp only [Try.ntmps71, List.size_toArray, List.length_cons, List.length_nil, Nat.reduceAdd, Nat.reduceSub, Array.replicate_succ, Array.replicate_zero, List.push_toArray, List.append_toArray, List.nil_append, List.cons_append]
  gi_wp2
  go_ret
  exact ⟨rfl, rfl⟩

/-- what a range over list.Texts comes to -/
theorem texts_stops (n : Nat) (a s : ByteArray) (k : Nat) (hk : k ≤ 6) (ha : a.size ≤ 140737488351232) (hs : OverOk a.data.toList s.data.toList) (hsk : s.size ≤ k) (B : Nat) (w : World)
    (h1 : Blk w B 9 #[.string a]) (h2 : Blk w (B + 1) 9 #[.string s]) (h3 : Blk w (B + 1 + 1) 3 #[.int .i64 k]) :
    SeqStopsK Fence.wide n Try.prog 100 #[.pointer (some ⟨B + 1, 0, none⟩), .pointer (some ⟨B + 1 + 1, 0, none⟩), .pointer (some ⟨B, 0, none⟩)] (fun x : ByteArray => #[.string x]) (KeepT B) (fun ys => ys = textsL a.data.toList s.data.toList k)
      (fun pre => ∃ j, j < (textsL a.data.toList s.data.toList k).length ∧ pre = (textsL a.data.toList s.data.toList k).take (j + 1)) (textsL a.data.toList s.data.toList k).length w := by
  intro l J Jx W hW hJ _ hY h0
  have hl := h3.lt
  exact texts1_in n l a s k hk ha hs hsk B J Jx W (by have := hW.size; omega) hJ ((hW.cell h1.lt).trans (h1.cell 0)) ((hW.cell h2.lt).trans (h2.cell 0)) ((hW.cell h3.lt).trans (h3.cell 0)) hY h0
end Go.Proofs.Ytkmcnekjimobhaa
