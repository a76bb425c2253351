/- The reader in memory: its block, node, next, Go. The reader goes to the next sign. The reader's other small steps: Go, Names, begins, Over, Bad, End, New. -/
import Derived.Test.YtndhbdbfjkmloaaDoorJReadLeast5
import Derived.Test.YtndhbdbfjkmloaaDoorJReadLeast7
import Derived.Test.YtndhbdbfjkmloaaDoorJReadLeast8
import Derived.Test.YtndhbdbfjkmloaaDoorJReadLeast9
import Derived.Deep.DeepCutAuto
namespace Go.Proofs.YtndhbdbfjkmloaaDoor
open Go.RowKit

/-- what the reader holds of a sign -/
structure TkV where
  n : Nat
  nd : Bool
  k : Int
  a : Int
  b : Int
  c : Int
  d : Int
  t : ByteArray
  sg : Nat
def tkE (n : Nat) : Ex → TkV | .mk k a b c d t _ => ⟨n, true, k, a, b, c, d, t, 0⟩
def tkV : Tok → TkV
  | .nd e n => tkE n e
  | .sg c n => ⟨n, false, 0, 0, 0, 0, 0, ⟨#[]⟩, c⟩
  | _ => ⟨0, false, 0, 0, 0, 0, 0, ⟨#[]⟩, 0⟩
def rdC (s : ByteArray) (h : Bool) (i : Nat) (v : TkV) : Array Value :=
  #[.string s, .bool h, .int .i64 (i : Int), .int .i64 ((i + v.n : Nat) : Int), .bool v.nd, .int .i64 v.k, .int .u64 v.a, .int .u64 v.b, .int .u64 v.c, .int .u64 v.d, .string v.t, .slice none 0 0, .int .u8 (v.sg : Int)]
/-- the reader stands at what is left, l -/
structure RdAt (s : ByteArray) (h : Bool) (rb : Nat) (l : List UInt8) (W : World) : Prop where
  blk : Blk W rb 119 (rdC s h (posL s l) (tkV (tokL l)))
  sfx : ∃ i, i ≤ s.size ∧ l = s.data.toList.drop i
  good : (tokL l).isBad = false
theorem grownSet {W W' : World} {rb : Nat} (h : W.grownBy W' (some rb)) (i : Nat) (u : Value) : W.grownBy (W'.setCell ⟨rb, i, none⟩ u) (some rb) :=
  ⟨h.os, h.tape, h.output, by simp [World.setCell]; exact h.size, fun k hk hne => (Below.heap_setCell W' ⟨rb, i, none⟩ u k (fun e => hne (by rw [e]))).trans (h.block k hk hne)⟩
theorem grownBel {W W' W2 : World} {rb : Nat} (h : W.grownBy W' (some rb)) (hb : Below W'.heap.size W' W2) : W.grownBy W2 (some rb) := h.trans (grown_of_below hb _)
theorem grownDrew {W W' : World} {r : Option Nat} (h : W.grownBy W' r) : W.grownBy W'.drew r := ⟨h.os, h.tape, h.output, h.size, h.block⟩

theorem node_blk {rb : Nat} {W : World} {s : ByteArray} {h : Bool} {i j : Int} {nd : Bool} {k0 a0 b0 c0 d0 : Int} {t0 : ByteArray} {V0 : Value} {sg : Int} (hb : Blk W rb 119 #[.string s, .bool h, .int .i64 i, .int .i64 j, .bool nd, .int .i64 k0, .int .u64 a0, .int .u64 b0, .int .u64 c0, .int .u64 d0, .string t0, V0, .int .u8 sg]) (k a b c d : Int) (t : ByteArray) :
    Blk ((((((((W.setCell ⟨rb, 4, none⟩ (.bool true)).setCell ⟨rb, 5, none⟩ (.int .i64 k)).setCell ⟨rb, 6, none⟩ (.int .u64 a)).setCell ⟨rb, 7, none⟩ (.int .u64 b)).setCell ⟨rb, 8, none⟩ (.int .u64 c)).setCell ⟨rb, 9, none⟩ (.int .u64 d)).setCell ⟨rb, 10, none⟩ (.string t)).setCell ⟨rb, 11, none⟩ (.slice none 0 0)) rb 119 #[.string s, .bool h, .int .i64 i, .int .i64 j, .bool true, .int .i64 k, .int .u64 a, .int .u64 b, .int .u64 c, .int .u64 d, .string t, .slice none 0 0, .int .u8 sg] := by
  have h0 : Blk (W.setCell ⟨rb, 4, none⟩ (.bool true)) rb 119 #[.string s, .bool h, .int .i64 i, .int .i64 j, .bool true, .int .i64 k0, .int .u64 a0, .int .u64 b0, .int .u64 c0, .int .u64 d0, .string t0, V0, .int .u8 sg] := hb.set_ 4 _
  have h1 : Blk ((W.setCell ⟨rb, 4, none⟩ (.bool true)).setCell ⟨rb, 5, none⟩ (.int .i64 k)) rb 119 #[.string s, .bool h, .int .i64 i, .int .i64 j, .bool true, .int .i64 k, .int .u64 a0, .int .u64 b0, .int .u64 c0, .int .u64 d0, .string t0, V0, .int .u8 sg] := h0.set_ 5 _
  have h2 : Blk (((W.setCell ⟨rb, 4, none⟩ (.bool true)).setCell ⟨rb, 5, none⟩ (.int .i64 k)).setCell ⟨rb, 6, none⟩ (.int .u64 a)) rb 119 #[.string s, .bool h, .int .i64 i, .int .i64 j, .bool true, .int .i64 k, .int .u64 a, .int .u64 b0, .int .u64 c0, .int .u64 d0, .string t0, V0, .int .u8 sg] := h1.set_ 6 _
  have h3 : Blk ((((W.setCell ⟨rb, 4, none⟩ (.bool true)).setCell ⟨rb, 5, none⟩ (.int .i64 k)).setCell ⟨rb, 6, none⟩ (.int .u64 a)).setCell ⟨rb, 7, none⟩ (.int .u64 b)) rb 119 #[.string s, .bool h, .int .i64 i, .int .i64 j, .bool true, .int .i64 k, .int .u64 a, .int .u64 b, .int .u64 c0, .int .u64 d0, .string t0, V0, .int .u8 sg] := h2.set_ 7 _
  have h4 : Blk (((((W.setCell ⟨rb, 4, none⟩ (.bool true)).setCell ⟨rb, 5, none⟩ (.int .i64 k)).setCell ⟨rb, 6, none⟩ (.int .u64 a)).setCell ⟨rb, 7, none⟩ (.int .u64 b)).setCell ⟨rb, 8, none⟩ (.int .u64 c)) rb 119 #[.string s, .bool h, .int .i64 i, .int .i64 j, .bool true, .int .i64 k, .int .u64 a, .int .u64 b, .int .u64 c, .int .u64 d0, .string t0, V0, .int .u8 sg] := h3.set_ 8 _
  have h5 : Blk ((((((W.setCell ⟨rb, 4, none⟩ (.bool true)).setCell ⟨rb, 5, none⟩ (.int .i64 k)).setCell ⟨rb, 6, none⟩ (.int .u64 a)).setCell ⟨rb, 7, none⟩ (.int .u64 b)).setCell ⟨rb, 8, none⟩ (.int .u64 c)).setCell ⟨rb, 9, none⟩ (.int .u64 d)) rb 119 #[.string s, .bool h, .int .i64 i, .int .i64 j, .bool true, .int .i64 k, .int .u64 a, .int .u64 b, .int .u64 c, .int .u64 d, .string t0, V0, .int .u8 sg] := h4.set_ 9 _
  have h6 : Blk (((((((W.setCell ⟨rb, 4, none⟩ (.bool true)).setCell ⟨rb, 5, none⟩ (.int .i64 k)).setCell ⟨rb, 6, none⟩ (.int .u64 a)).setCell ⟨rb, 7, none⟩ (.int .u64 b)).setCell ⟨rb, 8, none⟩ (.int .u64 c)).setCell ⟨rb, 9, none⟩ (.int .u64 d)).setCell ⟨rb, 10, none⟩ (.string t)) rb 119 #[.string s, .bool h, .int .i64 i, .int .i64 j, .bool true, .int .i64 k, .int .u64 a, .int .u64 b, .int .u64 c, .int .u64 d, .string t, V0, .int .u8 sg] := h5.set_ 10 _
  have h7 : Blk ((((((((W.setCell ⟨rb, 4, none⟩ (.bool true)).setCell ⟨rb, 5, none⟩ (.int .i64 k)).setCell ⟨rb, 6, none⟩ (.int .u64 a)).setCell ⟨rb, 7, none⟩ (.int .u64 b)).setCell ⟨rb, 8, none⟩ (.int .u64 c)).setCell ⟨rb, 9, none⟩ (.int .u64 d)).setCell ⟨rb, 10, none⟩ (.string t)).setCell ⟨rb, 11, none⟩ (.slice none 0 0)) rb 119 #[.string s, .bool h, .int .i64 i, .int .i64 j, .bool true, .int .i64 k, .int .u64 a, .int .u64 b, .int .u64 c, .int .u64 d, .string t, .slice none 0 0, .int .u8 sg] := h6.set_ 11 _
  exact h7
theorem zero_blk {rb : Nat} {W : World} {s : ByteArray} {h : Bool} {i j : Int} {nd : Bool} {k0 a0 b0 c0 d0 : Int} {t0 : ByteArray} {V0 : Value} {sg : Int} (hb : Blk W rb 119 #[.string s, .bool h, .int .i64 i, .int .i64 j, .bool nd, .int .i64 k0, .int .u64 a0, .int .u64 b0, .int .u64 c0, .int .u64 d0, .string t0, V0, .int .u8 sg]) (x : Int) :
    Blk (((((((((((W.setCell ⟨rb, 2, none⟩ (.int .i64 x)).setCell ⟨rb, 3, none⟩ (.int .i64 x)).setCell ⟨rb, 4, none⟩ (.bool false)).setCell ⟨rb, 5, none⟩ (.int .i64 0)).setCell ⟨rb, 6, none⟩ (.int .u64 0)).setCell ⟨rb, 7, none⟩ (.int .u64 0)).setCell ⟨rb, 8, none⟩ (.int .u64 0)).setCell ⟨rb, 9, none⟩ (.int .u64 0)).setCell ⟨rb, 10, none⟩ (.string ⟨#[]⟩)).setCell ⟨rb, 11, none⟩ (.slice none 0 0)).setCell ⟨rb, 12, none⟩ (.int .u8 0)) rb 119 #[.string s, .bool h, .int .i64 x, .int .i64 x, .bool false, .int .i64 0, .int .u64 0, .int .u64 0, .int .u64 0, .int .u64 0, .string ⟨#[]⟩, .slice none 0 0, .int .u8 0] ∧ W.grownBy (((((((((((W.setCell ⟨rb, 2, none⟩ (.int .i64 x)).setCell ⟨rb, 3, none⟩ (.int .i64 x)).setCell ⟨rb, 4, none⟩ (.bool false)).setCell ⟨rb, 5, none⟩ (.int .i64 0)).setCell ⟨rb, 6, none⟩ (.int .u64 0)).setCell ⟨rb, 7, none⟩ (.int .u64 0)).setCell ⟨rb, 8, none⟩ (.int .u64 0)).setCell ⟨rb, 9, none⟩ (.int .u64 0)).setCell ⟨rb, 10, none⟩ (.string ⟨#[]⟩)).setCell ⟨rb, 11, none⟩ (.slice none 0 0)).setCell ⟨rb, 12, none⟩ (.int .u8 0)) (some rb) := by
  have h0 : Blk (W.setCell ⟨rb, 2, none⟩ (.int .i64 x)) rb 119 #[.string s, .bool h, .int .i64 x, .int .i64 j, .bool nd, .int .i64 k0, .int .u64 a0, .int .u64 b0, .int .u64 c0, .int .u64 d0, .string t0, V0, .int .u8 sg] := hb.set_ 2 _
  have h1 : Blk ((W.setCell ⟨rb, 2, none⟩ (.int .i64 x)).setCell ⟨rb, 3, none⟩ (.int .i64 x)) rb 119 #[.string s, .bool h, .int .i64 x, .int .i64 x, .bool nd, .int .i64 k0, .int .u64 a0, .int .u64 b0, .int .u64 c0, .int .u64 d0, .string t0, V0, .int .u8 sg] := h0.set_ 3 _
  have h2 : Blk (((W.setCell ⟨rb, 2, none⟩ (.int .i64 x)).setCell ⟨rb, 3, none⟩ (.int .i64 x)).setCell ⟨rb, 4, none⟩ (.bool false)) rb 119 #[.string s, .bool h, .int .i64 x, .int .i64 x, .bool false, .int .i64 k0, .int .u64 a0, .int .u64 b0, .int .u64 c0, .int .u64 d0, .string t0, V0, .int .u8 sg] := h1.set_ 4 _
  have h3 : Blk ((((W.setCell ⟨rb, 2, none⟩ (.int .i64 x)).setCell ⟨rb, 3, none⟩ (.int .i64 x)).setCell ⟨rb, 4, none⟩ (.bool false)).setCell ⟨rb, 5, none⟩ (.int .i64 0)) rb 119 #[.string s, .bool h, .int .i64 x, .int .i64 x, .bool false, .int .i64 0, .int .u64 a0, .int .u64 b0, .int .u64 c0, .int .u64 d0, .string t0, V0, .int .u8 sg] := h2.set_ 5 _
  have h4 : Blk (((((W.setCell ⟨rb, 2, none⟩ (.int .i64 x)).setCell ⟨rb, 3, none⟩ (.int .i64 x)).setCell ⟨rb, 4, none⟩ (.bool false)).setCell ⟨rb, 5, none⟩ (.int .i64 0)).setCell ⟨rb, 6, none⟩ (.int .u64 0)) rb 119 #[.string s, .bool h, .int .i64 x, .int .i64 x, .bool false, .int .i64 0, .int .u64 0, .int .u64 b0, .int .u64 c0, .int .u64 d0, .string t0, V0, .int .u8 sg] := h3.set_ 6 _
  have h5 : Blk ((((((W.setCell ⟨rb, 2, none⟩ (.int .i64 x)).setCell ⟨rb, 3, none⟩ (.int .i64 x)).setCell ⟨rb, 4, none⟩ (.bool false)).setCell ⟨rb, 5, none⟩ (.int .i64 0)).setCell ⟨rb, 6, none⟩ (.int .u64 0)).setCell ⟨rb, 7, none⟩ (.int .u64 0)) rb 119 #[.string s, .bool h, .int .i64 x, .int .i64 x, .bool false, .int .i64 0, .int .u64 0, .int .u64 0, .int .u64 c0, .int .u64 d0, .string t0, V0, .int .u8 sg] := h4.set_ 7 _
  have h6 : Blk (((((((W.setCell ⟨rb, 2, none⟩ (.int .i64 x)).setCell ⟨rb, 3, none⟩ (.int .i64 x)).setCell ⟨rb, 4, none⟩ (.bool false)).setCell ⟨rb, 5, none⟩ (.int .i64 0)).setCell ⟨rb, 6, none⟩ (.int .u64 0)).setCell ⟨rb, 7, none⟩ (.int .u64 0)).setCell ⟨rb, 8, none⟩ (.int .u64 0)) rb 119 #[.string s, .bool h, .int .i64 x, .int .i64 x, .bool false, .int .i64 0, .int .u64 0, .int .u64 0, .int .u64 0, .int .u64 d0, .string t0, V0, .int .u8 sg] := h5.set_ 8 _
  have h7 : Blk ((((((((W.setCell ⟨rb, 2, none⟩ (.int .i64 x)).setCell ⟨rb, 3, none⟩ (.int .i64 x)).setCell ⟨rb, 4, none⟩ (.bool false)).setCell ⟨rb, 5, none⟩ (.int .i64 0)).setCell ⟨rb, 6, none⟩ (.int .u64 0)).setCell ⟨rb, 7, none⟩ (.int .u64 0)).setCell ⟨rb, 8, none⟩ (.int .u64 0)).setCell ⟨rb, 9, none⟩ (.int .u64 0)) rb 119 #[.string s, .bool h, .int .i64 x, .int .i64 x, .bool false, .int .i64 0, .int .u64 0, .int .u64 0, .int .u64 0, .int .u64 0, .string t0, V0, .int .u8 sg] := h6.set_ 9 _
  have h8 : Blk (((((((((W.setCell ⟨rb, 2, none⟩ (.int .i64 x)).setCell ⟨rb, 3, none⟩ (.int .i64 x)).setCell ⟨rb, 4, none⟩ (.bool false)).setCell ⟨rb, 5, none⟩ (.int .i64 0)).setCell ⟨rb, 6, none⟩ (.int .u64 0)).setCell ⟨rb, 7, none⟩ (.int .u64 0)).setCell ⟨rb, 8, none⟩ (.int .u64 0)).setCell ⟨rb, 9, none⟩ (.int .u64 0)).setCell ⟨rb, 10, none⟩ (.string ⟨#[]⟩)) rb 119 #[.string s, .bool h, .int .i64 x, .int .i64 x, .bool false, .int .i64 0, .int .u64 0, .int .u64 0, .int .u64 0, .int .u64 0, .string ⟨#[]⟩, V0, .int .u8 sg] := h7.set_ 10 _
  have h9 : Blk ((((((((((W.setCell ⟨rb, 2, none⟩ (.int .i64 x)).setCell ⟨rb, 3, none⟩ (.int .i64 x)).setCell ⟨rb, 4, none⟩ (.bool false)).setCell ⟨rb, 5, none⟩ (.int .i64 0)).setCell ⟨rb, 6, none⟩ (.int .u64 0)).setCell ⟨rb, 7, none⟩ (.int .u64 0)).setCell ⟨rb, 8, none⟩ (.int .u64 0)).setCell ⟨rb, 9, none⟩ (.int .u64 0)).setCell ⟨rb, 10, none⟩ (.string ⟨#[]⟩)).setCell ⟨rb, 11, none⟩ (.slice none 0 0)) rb 119 #[.string s, .bool h, .int .i64 x, .int .i64 x, .bool false, .int .i64 0, .int .u64 0, .int .u64 0, .int .u64 0, .int .u64 0, .string ⟨#[]⟩, .slice none 0 0, .int .u8 sg] := h8.set_ 11 _
  have h10 : Blk (((((((((((W.setCell ⟨rb, 2, none⟩ (.int .i64 x)).setCell ⟨rb, 3, none⟩ (.int .i64 x)).setCell ⟨rb, 4, none⟩ (.bool false)).setCell ⟨rb, 5, none⟩ (.int .i64 0)).setCell ⟨rb, 6, none⟩ (.int .u64 0)).setCell ⟨rb, 7, none⟩ (.int .u64 0)).setCell ⟨rb, 8, none⟩ (.int .u64 0)).setCell ⟨rb, 9, none⟩ (.int .u64 0)).setCell ⟨rb, 10, none⟩ (.string ⟨#[]⟩)).setCell ⟨rb, 11, none⟩ (.slice none 0 0)).setCell ⟨rb, 12, none⟩ (.int .u8 0)) rb 119 #[.string s, .bool h, .int .i64 x, .int .i64 x, .bool false, .int .i64 0, .int .u64 0, .int .u64 0, .int .u64 0, .int .u64 0, .string ⟨#[]⟩, .slice none 0 0, .int .u8 0] := h9.set_ 12 _
  exact ⟨h10, grownSet (grownSet (grownSet (grownSet (grownSet (grownSet (grownSet (grownSet (grownSet (grownSet (grownSet (World.grownBy.refl W (some rb)) _ _) _ _) _ _) _ _) _ _) _ _) _ _) _ _) _ _) _ _) _ _⟩

set_option maxRecDepth 100000 in
set_option maxHeartbeats 4000000 in
theorem nodeX_any (rb : Nat) (w : World) (s : ByteArray) (h : Bool) (i j : Int) (nd : Bool) (k0 a0 b0 c0 d0 : Int) (t0 : ByteArray) (V0 : Value) (sg : Int) (k a b c d : Int) (t : ByteArray)
    (hb : Blk w rb 119 #[.string s, .bool h, .int .i64 i, .int .i64 j, .bool nd, .int .i64 k0, .int .u64 a0, .int .u64 b0, .int .u64 c0, .int .u64 d0, .string t0, V0, .int .u8 sg]) :
    Calls Tryd.prog 115 #[.pointer (some ⟨rb, 0, none⟩), .agg #[.int .i64 k, .int .u64 a, .int .u64 b, .int .u64 c, .int .u64 d, .string t, .slice none 0 0]] w fun e w' => e = .returned (.tuple #[]) ∧ w.grownBy w' (some rb) ∧
      Blk w' rb 119 #[.string s, .bool h, .int .i64 i, .int .i64 j, .bool true, .int .i64 k, .int .u64 a, .int .u64 b, .int .u64 c, .int .u64 d, .string t, .slice none 0 0, .int .u8 sg] := by
  have hlt := hb.lt
  have x0 := hb.cell 4
  have x1 := hb.cell 5
  have x2 := hb.cell 6
  have x3 := hb.cell 7
  have x4 := hb.cell 8
  have x5 := hb.cell 9
  have x6 := hb.cell 10
  have x7 := hb.cell 11
  have f0 := hb.frozen 4
  have f1 := hb.frozen 5
  have f2 := hb.frozen 6
  have f3 := hb.frozen 7
  have f4 := hb.frozen 8
  have f5 := hb.frozen 9
  have f6 := hb.frozen 10
  have f7 := hb.frozen 11
  go_enter Tryd.func115, Tryd.ntmps115
  go_wp2
  go_region
  go_end0
  refine ⟨rfl, grownDrew (((((((((((World.grownBy.refl w (some rb)).trans (grownSet (World.grownBy.refl _ _) _ _)).trans (grownSet (World.grownBy.refl _ _) _ _)).trans (grownSet (World.grownBy.refl _ _) _ _)).trans (grownSet (World.grownBy.refl _ _) _ _)).trans (grownSet (World.grownBy.refl _ _) _ _)).trans (grownSet (World.grownBy.refl _ _) _ _)).trans (grownSet (World.grownBy.refl _ _) _ _)).trans (grownSet (World.grownBy.refl _ _) _ _)).trans (World.grownBy_alloc _ _ _))), ?_⟩
  exact ((node_blk hb k a b c d t).alloc _).drew

theorem notU_nat {x : Nat} (h : x < 18446744073709551616) : notU (x : Int) = ((18446744073709551615 - x : Nat) : Int) := by
  have h1 := notU_bv (BitVec.ofNat 64 x)
  rw [BitVec.toNat_not, BitVec.toNat_ofNat, Nat.mod_eq_of_lt (by omega)] at h1
  rw [h1]
theorem notV_is {w : List Nat} (hl : w.length = 4) (hw : Words w) : notV w = vals (notL w) := by
  obtain ⟨a, b, c, d, rfl⟩ := four_of hl
  have h0 := hw 0
  have h1 := hw 1
  have h2 := hw 2
  have h3 := hw 3
  simp only [List.getD_cons_zero, List.getD_cons_succ] at h0 h1 h2 h3
  unfold notV S4.map2 S4.val vals notL
  simp only [List.map_cons, List.map_nil, List.getD_cons_zero, List.getD_cons_succ, notU_nat h0, notU_nat h1, notU_nat h2, notU_nat h3]
theorem rangeFR : rangeL 0 256 = [18446744073709551615, 18446744073709551615, 18446744073709551615, 18446744073709551615] := by decide +kernel
theorem fullR_any (w : World) : Calls Tryd.prog 56 #[.int .i64 0, .int .i64 255] w fun e w' => e = .returned (.agg #[.int .u64 wM, .int .u64 wM, .int .u64 wM, .int .u64 wM]) ∧ Below w.heap.size w w' := by
  refine (range_any 0 255 w (by unfold I64; omega) (by unfold I64; omega) 0 256 (.inl ⟨by omega, rfl⟩) (by decide)).mono fun e w' ⟨h, hb⟩ => ⟨?_, hb⟩
  rw [h, rangeFR]
  rfl
/-- what Unclass answers of a text that begins so -/
theorem unclass_all (u : ByteArray) (r : List UInt8) (hu : u.data.toList = 91 :: r) (hs : u.size ≤ 100000) (w : World) :
    Calls Tryd.prog 116 #[.string u] w fun e w' => Below w.heap.size w w' ∧ ((∃ o n, tokL (91 :: r) = .nd (eSet o) n ∧ e = .returned (.tuple #[vals o, .int .i64 ((n : Nat) : Int), .int .i64 0])) ∨
      ((tokL (91 :: r)).isBad = true ∧ e = .returned (.tuple #[vals [0, 0, 0, 0], .int .i64 0, .int .i64 4]))) := by
  have hz : u.size = r.length + 1 := by rw [← size_list, hu]; rfl
  have hq : bt u.data.toList 0 = 91 := by rw [hu]; rfl
  have ht : tokL (91 :: r) = if bt r 0 = 94 then (match unc (r.length + 2) (r.drop 1) [0, 0, 0, 0] with
        | none => .bad
        | some (w, n) => .nd (eSet (notL w)) (n + 2)) else (match unc (r.length + 2) r [0, 0, 0, 0] with
        | none => .bad
        | some (w, n) => .nd (eSet w) (n + 1)) := by rw [tokL, if_neg (by decide), if_pos rfl]; rfl
  have h1 : bt u.data.toList 1 = bt r 0 := by rw [hu]; rfl
  have d1 : u.data.toList.drop 1 = r := by rw [hu]; rfl
  have d2 : u.data.toList.drop 2 = r.drop 1 := by rw [hu]; rfl
  rw [ht]
  by_cases h94 : bt r 0 = 94
  · have hr := bt_ne_len h94 (by decide)
    rw [if_pos h94]
    generalize hx : unc (r.length + 2) (r.drop 1) [0, 0, 0, 0] = x
    cases x with
    | none => exact (unclass_no2 u w (by omega) (by omega) hq (by rw [h1]; exact h94) 2 rfl (r.length + 2) (by omega) (by rw [d2]; exact hx)).mono fun e w' ⟨h, hb⟩ => ⟨hb, .inr ⟨rfl, h⟩⟩
    | some y =>
      obtain ⟨o, n⟩ := y
      obtain ⟨_, _, b3, b4⟩ := unc_bd _ _ _ _ _ rfl Words.zero hx
      refine (unclass_two u w (by omega) (by omega) hq (by rw [h1]; exact h94) 2 rfl o n (r.length + 2) (by omega) (by rw [d2]; exact hx)).mono fun e w' ⟨h, hb⟩ => ⟨hb, .inl ⟨notL o, n + 2, rfl, ?_⟩⟩
      rw [h, notV_is b3 b4, Nat.add_comm]
  · rw [if_neg h94]
    generalize hx : unc (r.length + 2) r [0, 0, 0, 0] = x
    cases x with
    | none =>
      by_cases h1s : u.size = 1
      · exact (unclass_no0 u w h1s hq).mono fun e w' ⟨h, hb⟩ => ⟨hb, .inr ⟨rfl, h⟩⟩
      · exact (unclass_no1 u w (by omega) (by omega) hq (by rw [h1]; exact h94) 1 rfl (r.length + 2) (by omega) (by rw [d1]; exact hx)).mono fun e w' ⟨h, hb⟩ => ⟨hb, .inr ⟨rfl, h⟩⟩
    | some y =>
      obtain ⟨o, n⟩ := y
      have hr : 0 < r.length := by
        cases r with
        | nil => rw [unc_nil] at hx; cases hx
        | cons => simp
      refine (unclass_one u w (by omega) (by omega) hq (by rw [h1]; exact h94) 1 rfl o n (r.length + 2) (by omega) (by rw [d1]; exact hx)).mono fun e w' ⟨h, hb⟩ => ⟨hb, .inl ⟨o, n + 1, rfl, ?_⟩⟩
      rw [h, Nat.add_comm]
/-- what Unlit answers of a text that begins so -/
theorem unlit_all (u : ByteArray) (c : UInt8) (r : List UInt8) (hc : c = 39 ∨ c = 34) (hu : u.data.toList = c :: r) (hs : u.size ≤ 100000) (w : World) :
    Calls Tryd.prog 77 #[.string u] w fun e w' => Below w.heap.size w w' ∧ ((∃ o n, tokL (c :: r) = .nd (if o = [] then eNil else eLit o) n ∧ e = .returned (.tuple #[.string ⟨o.toArray⟩, .int .i64 ((n : Nat) : Int), .int .i64 0])) ∨
      ((tokL (c :: r)).isBad = true ∧ e = .returned (.tuple #[.string ⟨#[]⟩, .int .i64 0, .int .i64 4]))) := by
  have hz : u.size = r.length + 1 := by rw [← size_list, hu]; rfl
  have hq : bt u.data.toList 0 = c.toNat := by rw [hu]; rfl
  have hq2 : c.toNat = 39 ∨ c.toNat = 34 := by
    rcases hc with rfl | rfl
    · exact .inl rfl
    · exact .inr rfl
  have ht : tokL (c :: r) = (match unl c.toNat sgU.data.toList (r.length + 1) r with
      | none => .bad
      | some (o, n) => .nd (if o = [] then eNil else eLit o) (n + 1)) := by rw [tokL, if_pos hc]; rfl
  have d1 : u.data.toList.drop 1 = r := by rw [hu]; rfl
  rw [ht]
  generalize hx : unl c.toNat sgU.data.toList (r.length + 1) r = x
  cases x with
  | none => exact (unlit_no u w (by omega) (by omega) c.toNat hq hq2 hs (by rw [d1, hz]; exact hx)).mono fun e w' ⟨h, hb⟩ => ⟨hb, .inr ⟨rfl, h⟩⟩
  | some y =>
    obtain ⟨o, n⟩ := y
    have hbd := unl_bd _ _ _ _ _ _ hx
    refine (unlit_yes u w (by omega) (by omega) c.toNat hq hq2 o n (by rw [d1, hz]; exact hx) (by omega)).mono fun e w' ⟨h, hb⟩ => ⟨hb, .inl ⟨o, n + 1, rfl, ?_⟩⟩
    rw [h, Nat.add_comm]
end Go.Proofs.YtndhbdbfjkmloaaDoor
namespace Go.Proofs.YtndhbdbfjkmloaaDoor
open Go.RowKit

theorem prefix_lt (r : List UInt8) : ([60, 45] : List UInt8).isPrefixOf (60 :: r) = decide (bt r 0 = 45) := by
  cases r with
  | nil => rfl
  | cons d r =>
    show ((60 : UInt8) == 60 && ((45 : UInt8) == d && true)) = decide (d.toNat = 45)
    by_cases hd : d = 45
    · subst hd; rfl
    · have h1 : ¬ d.toNat = 45 := fun e => hd (UInt8.toNat_inj.1 e)
      have h2 : ((45 : UInt8) == d) = false := by rw [beq_eq_false_iff_ne]; exact fun e => hd e.symm
      rw [decide_eq_false h1, h2]
      rfl
theorem bytesR {u v : ByteArray} (h : u.data.toList = v.data.toList) : u = v := by
  cases u with | mk a => cases v with | mk b => exact congrArg _ (Array.toList_inj.1 h)
theorem let57 : ∀ n : Fin 256, isLet n.val = true → 57 < n.val := by decide +kernel
set_option maxRecDepth 100000 in
set_option maxHeartbeats 4000000 in
theorem next_any (s : ByteArray) (hs : s.size ≤ 100000) (h : Bool) (rb i0 : Nat) (hi0 : i0 ≤ s.size) (i1 j1 : Int) (nd1 : Bool) (k1 a1 b1 c1 d1 : Int) (t1 : ByteArray) (V1 : Value) (sg1 : Int) (w : World)
    (hb : Blk w rb 119 #[.string s, .bool h, .int .i64 i1, .int .i64 j1, .bool nd1, .int .i64 k1, .int .u64 a1, .int .u64 b1, .int .u64 c1, .int .u64 d1, .string t1, V1, .int .u8 sg1]) (Q : Ending → World → Prop) (l : List UInt8) (hl : l = skipL false (s.data.toList.drop i0))
    (hok : (tokL l).isBad = false → ∀ W', w.grownBy W' (some rb) → Blk W' rb 119 (rdC s h (posL s l) (tkV (tokL l))) → Q (.returned (.tuple #[])) W')
    (hbad : (tokL l).isBad = true → ∀ W', w.grownBy W' (some rb) → Q (.panicked [{ v := faultV (posL s l), recovered := false }]) W') :
    Calls Tryd.prog 91 #[.pointer (some ⟨rb, 0, none⟩), .int .i64 (i0 : Int)] w Q := by
  have HSK := Lib.hid (skip_any s (by omega) rb i0 hi0 w (hb.cell 0))
  rw [← hl] at HSK
  obtain ⟨n0, hn0, hl0⟩ := skip_drop false (s.data.toList.drop i0)
  rw [← hl, List.drop_drop] at hl0
  have hll := size_list s
  rw [List.length_drop] at hn0
  have hi : i0 + n0 ≤ s.size := by omega
  generalize hin : i0 + n0 = i at hl0 hi
  have hpos : posL s l = i := by rw [hl0]; exact posL_drop hi
  rw [hpos] at HSK hok hbad
  clear hin hn0 hl hpos
  have HL := Lib.hid hl0
  have HOK := Lib.hid hok
  have HBAD := Lib.hid hbad
  clear hok hbad
  have x2 := hb.cell 2
  have x3 := hb.cell 3
  have x4 := hb.cell 4
  have x5 := hb.cell 5
  have x6 := hb.cell 6
  have x7 := hb.cell 7
  have x8 := hb.cell 8
  have x9 := hb.cell 9
  have x10 := hb.cell 10
  have x11 := hb.cell 11
  have x12 := hb.cell 12
  have f2 := hb.frozen 2
  have f3 := hb.frozen 3
  have f4 := hb.frozen 4
  have f5 := hb.frozen 5
  have f6 := hb.frozen 6
  have f7 := hb.frozen 7
  have f8 := hb.frozen 8
  have f9 := hb.frozen 9
  have f10 := hb.frozen 10
  have f11 := hb.frozen 11
  have f12 := hb.frozen 12
  go_enter Tryd.func91, Tryd.ntmps91
  go_wp2_with fail
  refine HSK.out.mono ?_
  rintro e w' ⟨rfl, hw'⟩
  subst w'
  go_upto_region 2 with fail
  obtain ⟨hB1, hG1⟩ := zero_blk hb (i : Int)
  generalize (((((((((((w.setCell ⟨rb, 2, none⟩ (.int .i64 (i : Int))).setCell ⟨rb, 3, none⟩ (.int .i64 (i : Int))).setCell ⟨rb, 4, none⟩ (.bool false)).setCell ⟨rb, 5, none⟩ (.int .i64 0)).setCell ⟨rb, 6, none⟩ (.int .u64 0)).setCell ⟨rb, 7, none⟩ (.int .u64 0)).setCell ⟨rb, 8, none⟩ (.int .u64 0)).setCell ⟨rb, 9, none⟩ (.int .u64 0)).setCell ⟨rb, 10, none⟩ (.string ⟨#[]⟩)).setCell ⟨rb, 11, none⟩ (.slice none 0 0)).setCell ⟨rb, 12, none⟩ (.int .u8 0)) = W1 at hB1 hG1 ⊢
  clear hb x2 x3 x4 x5 x6 x7 x8 x9 x10 x11 x12 f2 f3 f4 f5 f6 f7 f8 f9 f10 f11 f12 HSK
  have y0 := hB1.cell 0
  by_cases hlen : i < s.size
  · obtain ⟨c, r, hcr⟩ : ∃ c r, l = c :: r := by
      cases l with
      | nil =>
        have := congrArg List.length HL.out
        rw [List.length_drop, size_list, List.length_nil] at this
        omega
      | cons c r => exact ⟨c, r, rfl⟩
    have hul : (s.extract i s.size).data.toList = c :: r := by rw [Lib.extract_to_end, ← HL.out, hcr]
    go_upto_region 4 with fail
    have hle := size_list (s.extract i s.size)
    rw [Lib.extract_to_end, List.length_drop, size_list] at hle
    generalize s.extract i s.size = u at hul hle ⊢
    have hus : u.size = r.length + 1 := by rw [← size_list, hul]; rfl
    have hu0 : 0 < u.size := by omega
    have hb0 := bt_of hu0
    have hc0 : bt u.data.toList 0 = c.toNat := by rw [hul]; rfl
    rw [hc0] at hb0
    subst hcr
    have hsum : i + (r.length + 1) ≤ s.size := by have := size_list u; omega
    have hus1 : u.size ≤ r.length + 1 := by omega
    have hus2 : r.length + 1 ≤ u.size := by omega
    clear hus
    have HUL := Lib.hid hul
    have hnd : ∀ e n, tokL (c :: r) = .nd e n → n ≤ r.length + 1 := fun e n ht => (tok_nd ht).2.1
    have HND := Lib.hid hnd
    clear hul hle hc0 hnd
    by_cases q1 : c = 39 ∨ c = 34
    · have HUN := Lib.hid (fun W => unlit_all u c r q1 HUL.out (by omega) W)
      have hk : ((c.toNat : Int) == 39) = true ∨ (((c.toNat : Int) == 39) = false ∧ ((c.toNat : Int) == 34) = true) := by
        rcases q1 with rfl | rfl
        · exact .inl rfl
        · exact .inr ⟨rfl, rfl⟩
      clear q1
      generalize c.toNat = cn at hb0 hk
      rcases hk with e1 | ⟨e1, e2⟩
      all_goals
        go_wp2_with fail
        refine (HUN.out _).mono ?_
        rintro e w2 ⟨hb2, ⟨o, n, ht, rfl⟩ | ⟨ht, rfl⟩⟩
        · have hB2 := hB1.below hb2 hB1.lt
          have hG2 := grownBel hG1 hb2
          have hn := HND.out _ _ ht
          by_cases ho : o = []
          · subst ho
            rw [if_pos rfl] at ht
            go_wp2_with fail
            refine (nodeX_any rb _ s h _ _ _ _ _ _ _ _ _ _ _ 3 0 0 0 0 ⟨#[]⟩ hB2).mono ?_
            rintro e w3 ⟨rfl, hg3, hB3⟩
            go_wp2_with fail
            refine (nodeX_any rb _ s h _ _ _ _ _ _ _ _ _ _ _ 1 0 0 0 0 ⟨#[]⟩ hB3).mono ?_
            rintro e w4 ⟨rfl, hg4, hB4⟩
            have hG4 := (hG2.trans hg3).trans hg4
            have z3 := hB4.cell 3
            have f3 := hB4.frozen 3
            go_wp2
            go_end0
            exact HOK.out (by rw [ht]; rfl) _ (grownSet hG4 3 _) (by rw [ht]; exact hB4.set_ 3 _)
          · rw [if_neg ho] at ht
            have ht2 : tokL (c :: r) = .nd (.mk 3 0 0 0 0 ⟨o.toArray⟩ []) n := ht
            have hoe : ((⟨o.toArray⟩ : ByteArray).toList.isEmpty) = false := by
              rw [ByteArray.toList_eq]
              cases o with
              | nil => exact absurd rfl ho
              | cons => rfl
            clear ho ht
            generalize (⟨o.toArray⟩ : ByteArray) = t at hoe ht2 ⊢
            go_wp2_with fail
            refine (nodeX_any rb _ s h _ _ _ _ _ _ _ _ _ _ _ 3 0 0 0 0 t hB2).mono ?_
            rintro e w3 ⟨rfl, hg3, hB3⟩
            have hG3 := hG2.trans hg3
            have z3 := hB3.cell 3
            have f3 := hB3.frozen 3
            go_wp2
            go_end0
            exact HOK.out (by rw [ht2]; rfl) _ (grownSet hG3 3 _) (by rw [ht2]; exact hB3.set_ 3 _)
        · have hG2 := grownBel hG1 hb2
          go_wp2_with fail
          refine (bad_any i _).mono ?_
          rintro e w9 ⟨rfl, hw9⟩
          subst w9
          go_wp2
          exact ⟨rfl, HBAD.out ht _ hG2⟩
    · have e1 : ((c.toNat : Int) == 39) = false := u8_ne 39 (fun e => q1 (.inl e)) rfl
      have e2 : ((c.toNat : Int) == 34) = false := u8_ne 34 (fun e => q1 (.inr e)) rfl
      by_cases q2 : c = 91
      · subst q2
        have hb0' : u[0].toNat = 91 := hb0
        clear hb0 e1 e2 q1
        have HUN := Lib.hid (fun W => unclass_all u r HUL.out (by omega) W)
        go_wp2_with fail
        refine (HUN.out _).mono ?_
        rintro e w2 ⟨hb2, ⟨o, n, ht, rfl⟩ | ⟨ht, rfl⟩⟩
        · have hB2 := hB1.below hb2 hB1.lt
          have hG2 := grownBel hG1 hb2
          have hn := HND.out _ _ ht
          have ht2 : tokL (91 :: r) = .nd (.mk 2 (o.getD 0 0 : Nat) (o.getD 1 0 : Nat) (o.getD 2 0 : Nat) (o.getD 3 0 : Nat) ⟨#[]⟩ []) n := ht
          unfold vals
          clear ht
          generalize o.getD 0 0 = a0 at ht2 ⊢
          generalize o.getD 1 0 = a1 at ht2 ⊢
          generalize o.getD 2 0 = a2 at ht2 ⊢
          generalize o.getD 3 0 = a3 at ht2 ⊢
          go_upto_region 21 with fail
          have hB3 := hB2.alloc (.cells #[.int .u64 (a0 : Int), .int .u64 (a1 : Int), .int .u64 (a2 : Int), .int .u64 (a3 : Int)] 24)
          have hG3 := hG2.trans (World.grownBy_alloc w2 (.cells #[.int .u64 (a0 : Int), .int .u64 (a1 : Int), .int .u64 (a2 : Int), .int .u64 (a3 : Int)] 24) (some rb))
          have hS3 := Blk.new w2 24 #[.int .u64 (a0 : Int), .int .u64 (a1 : Int), .int .u64 (a2 : Int), .int .u64 (a3 : Int)]
          generalize w2.heap.size = sb at hS3 ⊢
          generalize (w2.alloc (.cells #[.int .u64 (a0 : Int), .int .u64 (a1 : Int), .int .u64 (a2 : Int), .int .u64 (a3 : Int)] 24)) = W3 at hB3 hG3 hS3 ⊢
          have s0 := hS3.cell 0
          have s1 := hS3.cell 1
          have s2 := hS3.cell 2
          have s3 := hS3.cell 3
          go_wp2_with fail
          refine (nodeX_any rb _ s h _ _ _ _ _ _ _ _ _ _ _ 2 a0 a1 a2 a3 ⟨#[]⟩ hB3).mono ?_
          rintro e w4 ⟨rfl, hg4, hB4⟩
          have hG4 := hG3.trans hg4
          have z3 := hB4.cell 3
          have f3 := hB4.frozen 3
          go_wp2
          go_end0
          exact HOK.out (by rw [ht2]; rfl) _ (grownSet hG4 3 _) (by rw [ht2]; exact hB4.set_ 3 _)
        · have hG2 := grownBel hG1 hb2
          unfold vals
          go_wp2_with fail
          refine (bad_any i _).mono ?_
          rintro e w9 ⟨rfl, hw9⟩
          subst w9
          go_wp2
          exact ⟨rfl, HBAD.out ht _ (hG2.trans (World.grownBy_alloc _ _ _))⟩
      · have e3 : ((c.toNat : Int) == 91) = false := u8_ne 91 q2 rfl
        by_cases q3 : c = 46
        · subst q3
          have hb0' : u[0].toNat = 46 := hb0
          clear hb0 e1 e2 e3 q1 q2
          have HFR := Lib.hid (fun W => fullR_any W)
          have ht : tokL (46 :: r) = .nd (.mk 2 wM wM wM wM ⟨#[]⟩ []) 1 := (tok_any r).1
          generalize wM = M at HFR ht
          go_wp2_with fail
          refine (HFR.out _).mono ?_
          rintro e w2 ⟨rfl, hb2⟩
          have hB2 := hB1.below hb2 hB1.lt
          have hG2 := grownBel hG1 hb2
          go_wp2_with fail
          refine (nodeX_any rb _ s h _ _ _ _ _ _ _ _ _ _ _ 2 M M M M ⟨#[]⟩ hB2).mono ?_
          rintro e w3 ⟨rfl, hg3, hB3⟩
          have hG3 := hG2.trans hg3
          have z3 := hB3.cell 3
          have f3 := hB3.frozen 3
          go_wp2
          go_end0
          exact HOK.out (by rw [ht]; rfl) _ (grownSet hG3 3 _) (by rw [ht]; exact hB3.set_ 3 _)
        · have e4 : ((c.toNat : Int) == 46) = false := u8_ne 46 q3 rfl
          obtain ⟨x, hx⟩ : ∃ x, Lib.indexByte [40, 41, 47, 38, 33, 63, 42, 43] c = x := ⟨_, rfl⟩
          have hxm : 0 ≤ x ↔ c ∈ ([40, 41, 47, 38, 33, 63, 42, 43] : List UInt8) := by rw [← hx]; exact index_mem
          have HIX : Hid (∀ W, Calls Tryd.prog 99 #[.string ⟨#[40, 41, 47, 38, 33, 63, 42, 43]⟩, .int .u8 (c.toNat : Int)] W fun e w' => e = .returned (.int .i64 x) ∧ W = w') := fun W => by
            have := indexByte_any ⟨#[40, 41, 47, 38, 33, 63, 42, 43]⟩ (c.toNat : Int) W
            rw [show ((c.toNat : Int)).toNat.toUInt8 = c from by simp] at this
            rw [← hx]
            exact this
          clear hx
          by_cases q4 : c = 40 ∨ c = 41 ∨ c = 47 ∨ c = 38 ∨ c = 33 ∨ c = 63 ∨ c = 42 ∨ c = 43
          · have hx0 : 0 ≤ x := hxm.2 (by simpa using q4)
            have ht := (tok_sg q4 r).1
            clear hxm q1 q2 q3 q4
            have z12 := hB1.cell 12
            have f12 := hB1.frozen 12
            generalize hcn : c.toNat = cn at hb0 e1 e2 e3 e4 HIX ht
            go_wp2_with fail
            refine (HIX.out _).mono ?_
            rintro e w2 ⟨rfl, hw2⟩
            subst w2
            go_upto_region 31 with fail
            have hB2 := hB1.set_ 12 (.int .u8 (cn : Int))
            have hG2 := grownSet hG1 12 (.int .u8 (cn : Int))
            generalize W1.setCell ⟨rb, 12, none⟩ (.int .u8 (cn : Int)) = W2 at hB2 hG2 ⊢
            have z3 := hB2.cell 3
            have f3 := hB2.frozen 3
            go_wp2
            go_end0
            exact HOK.out (by rw [ht]; rfl) _ (grownSet hG2 3 _) (by rw [ht]; exact hB2.set_ 3 _)
          · have hx0 : ¬ 0 ≤ x := fun hh => q4 (by simpa using hxm.1 hh)
            have hcn := c.toNat_lt
            by_cases q56 : c = 60 ∧ bt r 0 = 45
            · obtain ⟨q5, q6⟩ := q56
              subst q5
              have hb0' : u[0].toNat = 60 := hb0
              have HPX : Hid (∀ W, Calls Tryd.prog 93 #[.string u, .string ⟨#[60, 45]⟩] W fun e w' => e = .returned (.bool (decide (bt r 0 = 45))) ∧ Below W.heap.size W w') := fun W => by
                have := hasPrefixX_any u ⟨#[60, 45]⟩ W
                rw [HUL.out] at this
                rw [← prefix_lt r]
                exact this
              have z12 := hB1.cell 12
              have f12 := hB1.frozen 12
              clear hb0 e1 e2 e3 e4 q1 q2 q3 q4 hxm
              have ht : tokL (60 :: r) = .sg 60 2 := by
                rw [tokL, if_neg (by decide), if_neg (by decide), if_neg (by decide), if_neg (by decide), if_pos ⟨rfl, q6⟩]
              rw [decide_eq_true q6] at HPX
              go_wp2_with fail
              refine (HIX.out _).mono ?_
              rintro e w2 ⟨rfl, hw2⟩
              subst w2
              go_wp2_with fail
              refine (HPX.out _).mono ?_
              rintro e w2 ⟨rfl, hb2⟩
              have hB2 := hB1.below hb2 hB1.lt
              have hG2 := grownBel hG1 hb2
              have z13 := hB2.cell 12
              have f13 := hB2.frozen 12
              clear z12 f12
              go_upto_region 31 with fail
              have hB3 := hB2.set_ 12 (.int .u8 60)
              have hG3 := grownSet hG2 12 (.int .u8 60)
              generalize w2.setCell ⟨rb, 12, none⟩ (.int .u8 60) = W3 at hB3 hG3 ⊢
              have z3 := hB3.cell 3
              have f3 := hB3.frozen 3
              go_wp2
              go_end0
              exact HOK.out (by rw [ht]; rfl) _ (grownSet hG3 3 _) (by rw [ht]; exact hB3.set_ 3 _)
            · obtain ⟨K, hK0⟩ : ∃ K, 1 + nameL r = K := ⟨_, rfl⟩
              have HK : Hid (1 + nameL ((c :: r).drop 1) = K) := hK0
              have hTD : tokL (c :: r) = if isLet c.toNat = true then .nd (eRef ((c :: r).take (nameL (c :: r)))) (nameL (c :: r)) else .bad := by
                rw [tokL, if_neg q1, if_neg q2, if_neg q3, if_neg q4, if_neg q56]
              have HTD : Hid ((isLet c.toNat = true → tokL (c :: r) = .nd (.mk 4 0 0 0 0 (u.extract 0 K) []) K) ∧ (isLet c.toNat = false → (tokL (c :: r)).isBad = true)) := by
                refine ⟨fun hh => ?_, fun hh => ?_⟩
                · rw [hTD, if_pos hh]
                  have hld : isLD c.toNat = true := by unfold isLD; rw [hh]; rfl
                  have hk : nameL (c :: r) = K := by rw [nameL, if_pos hld]; omega
                  rw [hk]
                  unfold eRef
                  congr 1
                  congr 1
                  refine bytesR ?_
                  rw [← ByteArray.toList_eq (u.extract 0 K), Lib.extract_toList, HUL.out]
                  simp
                · rw [hTD, if_neg (by rw [hh]; decide)]
                  rfl
              clear hTD hK0
              have hcase : ((c.toNat : Int) == 60) = false ∨ (c = 60 ∧ ((c.toNat : Int) == 60) = true) := by
                by_cases q5 : c = 60
                · exact .inr ⟨q5, by rw [q5]; rfl⟩
                · exact .inl (u8_ne 60 q5 rfl)
              rcases hcase with e5 | ⟨q5, e5⟩
              · clear q1 q2 q3 q4 q56 hxm
                generalize c.toNat = cn at hb0 e1 e2 e3 e4 e5 HIX hcn HTD
                go_wp2_with fail
                refine (HIX.out _).mono ?_
                rintro e w2 ⟨rfl, hw2⟩
                subst w2
                go_wp2_with fail
                go_loopw [5] (fun n wr => ∃ j : Nat, 1 ≤ j ∧ j ≤ u.size ∧ n = .int .i64 j ∧ Hid (j + nameL ((c :: r).drop j) = K) ∧ wr = W1) (fun n _ => u.size - (intOf n).toNat)
                case atStart => exact ⟨1, by omega, by omega, rfl, HK, rfl⟩
                case round =>
                  obtain ⟨j, hj1, hj, rfl, HJ, hwr⟩ := hrel
                  subst hwr
                  by_cases hjn : j < u.size
                  · have hbj := bt_of hjn
                    rw [HUL.out] at hbj
                    have hlj := bt_lt (c :: r) j
                    obtain ⟨d, hd1, hd2⟩ := drop_at (l := c :: r) (j := j) (by simp; omega)
                    have hbd : bt (c :: r) j = d.toNat := by unfold bt; rw [List.getD_eq_getElem?_getD, hd1]; rfl
                    by_cases hLD : isLD d.toNat = true
                    · have HJ2 : Hid (j + 1 + nameL ((c :: r).drop (j + 1)) = K) := by
                        have h1 := HJ.out
                        rw [hd2, nameL, if_pos hLD] at h1
                        show _ = _
                        omega
                      rw [hbd] at hbj hlj
                      clear hd1 hd2 hbd HJ
                      generalize d.toNat = dn at hbj hlj hLD
                      go_wp2_with fail
                      refine (letter_any dn hlj _).mono ?_
                      rintro e w3 ⟨rfl, hw3⟩
                      subst w3
                      rw [hLD]
                      go_wp2
                      go_roundw
                      case rel => exact ⟨j + 1, by omega, by omega, by go_num, HJ2, by first | trivial | rfl⟩
                      case measure => simp [intOf]; omega
                    · have HJE : Hid (j = K) := by
                        have h1 := HJ.out
                        rw [hd2, nameL, if_neg hLD] at h1
                        show _ = _
                        omega
                      have hLD' : isLD d.toNat = false := by simpa using hLD
                      rw [hbd] at hbj hlj
                      clear hd1 hd2 hbd HJ hLD
                      generalize d.toNat = dn at hbj hlj hLD'
                      go_wp2_with fail
                      refine (letter_any dn hlj _).mono ?_
                      rintro e w3 ⟨rfl, hw3⟩
                      subst w3
                      rw [hLD']
                      have HT1 : Hid (isLet cn = true → tokL (c :: r) = .nd (.mk 4 0 0 0 0 (u.extract 0 j) []) j) := by
                        have e : K = j := by have := HJE.out; omega
                        rw [← e]
                        exact HTD.out.1
                      clear HJE HK
                      go_wp2_with fail
                      refine (letter_any cn hcn _).mono ?_
                      rintro e w4 ⟨rfl, hw4⟩
                      subst w4
                      by_cases hlet : isLet cn = true
                      · have hld : isLD cn = true := by unfold isLD; rw [hlet]; rfl
                        have h57 : ¬ (cn : Int) ≤ 57 := by have := let57 ⟨cn, hcn⟩ hlet; simp only at this; omega
                        have h48 : (48 : Int) ≤ (cn : Int) := by omega
                        have ht := HT1.out hlet
                        rw [hld]
                        go_wp2_with fail
                        refine (nodeX_any rb _ s h _ _ _ _ _ _ _ _ _ _ _ 4 0 0 0 0 (u.extract 0 j) hB1).mono ?_
                        rintro e w5 ⟨rfl, hg5, hB5⟩
                        have hG5 := hG1.trans hg5
                        have hk1 : (j : Int) ≤ 100000 := by omega
                        have z3 := hB5.cell 3
                        have f3 := hB5.frozen 3
                        go_wp2
                        go_end0
                        exact HOK.out (by rw [ht]; rfl) _ (grownSet hG5 3 _) (by rw [ht]; exact hB5.set_ 3 _)
                      · have ht := HTD.out.2 (by simpa using hlet)
                        by_cases hld : isLD cn = true
                        · have hd : isDig cn = true := by
                            unfold isLD at hld
                            rw [Bool.or_eq_true] at hld
                            exact hld.resolve_left hlet
                          have h48 : (48 : Int) ≤ (cn : Int) := by unfold isDig at hd; simp only [Bool.and_eq_true, decide_eq_true_iff] at hd; omega
                          have h57 : (cn : Int) ≤ 57 := by unfold isDig at hd; simp only [Bool.and_eq_true, decide_eq_true_iff] at hd; omega
                          rw [hld]
                          go_wp2_with fail
                          refine (bad_any i _).mono ?_
                          rintro e w9 ⟨rfl, hw9⟩
                          subst w9
                          go_wp2
                          exact ⟨rfl, HBAD.out ht _ hG1⟩
                        · have hld' : isLD cn = false := by simpa using hld
                          rw [hld']
                          go_wp2_with fail
                          refine (bad_any i _).mono ?_
                          rintro e w9 ⟨rfl, hw9⟩
                          subst w9
                          go_wp2
                          exact ⟨rfl, HBAD.out ht _ hG1⟩
                  · have hjn' : ¬ (j : Int) < (u.size : Int) := by omega
                    have HJE : Hid (j = K) := by
                      have h1 := HJ.out
                      rw [List.drop_of_length_le (by simp; omega)] at h1
                      show _ = _
                      exact h1
                    clear HJ
                    have HT1 : Hid (isLet cn = true → tokL (c :: r) = .nd (.mk 4 0 0 0 0 (u.extract 0 j) []) j) := by
                      have e : K = j := by have := HJE.out; omega
                      rw [← e]
                      exact HTD.out.1
                    clear HJE HK
                    go_wp2_with fail
                    refine (letter_any cn hcn _).mono ?_
                    rintro e w4 ⟨rfl, hw4⟩
                    subst w4
                    by_cases hlet : isLet cn = true
                    · have hld : isLD cn = true := by unfold isLD; rw [hlet]; rfl
                      have h57 : ¬ (cn : Int) ≤ 57 := by have := let57 ⟨cn, hcn⟩ hlet; simp only at this; omega
                      have h48 : (48 : Int) ≤ (cn : Int) := by omega
                      have ht := HT1.out hlet
                      rw [hld]
                      go_wp2_with fail
                      refine (nodeX_any rb _ s h _ _ _ _ _ _ _ _ _ _ _ 4 0 0 0 0 (u.extract 0 j) hB1).mono ?_
                      rintro e w5 ⟨rfl, hg5, hB5⟩
                      have hG5 := hG1.trans hg5
                      have hk1 : (j : Int) ≤ 100000 := by omega
                      have z3 := hB5.cell 3
                      have f3 := hB5.frozen 3
                      go_wp2
                      go_end0
                      exact HOK.out (by rw [ht]; rfl) _ (grownSet hG5 3 _) (by rw [ht]; exact hB5.set_ 3 _)
                    · have ht := HTD.out.2 (by simpa using hlet)
                      by_cases hld : isLD cn = true
                      · have hd : isDig cn = true := by
                          unfold isLD at hld
                          rw [Bool.or_eq_true] at hld
                          exact hld.resolve_left hlet
                        have h48 : (48 : Int) ≤ (cn : Int) := by unfold isDig at hd; simp only [Bool.and_eq_true, decide_eq_true_iff] at hd; omega
                        have h57 : (cn : Int) ≤ 57 := by unfold isDig at hd; simp only [Bool.and_eq_true, decide_eq_true_iff] at hd; omega
                        rw [hld]
                        go_wp2_with fail
                        refine (bad_any i _).mono ?_
                        rintro e w9 ⟨rfl, hw9⟩
                        subst w9
                        go_wp2
                        exact ⟨rfl, HBAD.out ht _ hG1⟩
                      · have hld' : isLD cn = false := by simpa using hld
                        rw [hld']
                        go_wp2_with fail
                        refine (bad_any i _).mono ?_
                        rintro e w9 ⟨rfl, hw9⟩
                        subst w9
                        go_wp2
                        exact ⟨rfl, HBAD.out ht _ hG1⟩
              · have HPX : Hid (∀ W, Calls Tryd.prog 93 #[.string u, .string ⟨#[60, 45]⟩] W fun e w' => e = .returned (.bool false) ∧ Below W.heap.size W w') := fun W => by
                  have := hasPrefixX_any u ⟨#[60, 45]⟩ W
                  rw [HUL.out, q5] at this
                  rw [show (⟨#[60, 45]⟩ : ByteArray).data.toList.isPrefixOf (60 :: r) = false from (prefix_lt r).trans (decide_eq_false fun hh => q56 ⟨q5, hh⟩)] at this
                  exact this
                clear q1 q2 q3 q4 q5 q56 hxm
                generalize c.toNat = cn at hb0 e1 e2 e3 e4 e5 HIX hcn HTD
                go_wp2_with fail
                refine (HIX.out _).mono ?_
                rintro e w2 ⟨rfl, hw2⟩
                subst w2
                go_wp2_with fail
                refine (HPX.out _).mono ?_
                rintro e w2 ⟨rfl, hb2⟩
                replace hG1 := grownBel hG1 hb2
                replace hB1 := hB1.below hb2 hB1.lt
                clear y0 hb2
                go_wp2_with fail
                go_loopw [5] (fun n wr => ∃ j : Nat, 1 ≤ j ∧ j ≤ u.size ∧ n = .int .i64 j ∧ Hid (j + nameL ((c :: r).drop j) = K) ∧ wr = w2) (fun n _ => u.size - (intOf n).toNat)
                case atStart => exact ⟨1, by omega, by omega, rfl, HK, rfl⟩
                case round =>
                  obtain ⟨j, hj1, hj, rfl, HJ, hwr⟩ := hrel
                  subst hwr
                  by_cases hjn : j < u.size
                  · have hbj := bt_of hjn
                    rw [HUL.out] at hbj
                    have hlj := bt_lt (c :: r) j
                    obtain ⟨d, hd1, hd2⟩ := drop_at (l := c :: r) (j := j) (by simp; omega)
                    have hbd : bt (c :: r) j = d.toNat := by unfold bt; rw [List.getD_eq_getElem?_getD, hd1]; rfl
                    by_cases hLD : isLD d.toNat = true
                    · have HJ2 : Hid (j + 1 + nameL ((c :: r).drop (j + 1)) = K) := by
                        have h1 := HJ.out
                        rw [hd2, nameL, if_pos hLD] at h1
                        show _ = _
                        omega
                      rw [hbd] at hbj hlj
                      clear hd1 hd2 hbd HJ
                      generalize d.toNat = dn at hbj hlj hLD
                      go_wp2_with fail
                      refine (letter_any dn hlj _).mono ?_
                      rintro e w3 ⟨rfl, hw3⟩
                      subst w3
                      rw [hLD]
                      go_wp2
                      go_roundw
                      case rel => exact ⟨j + 1, by omega, by omega, by go_num, HJ2, by first | trivial | rfl⟩
                      case measure => simp [intOf]; omega
                    · have HJE : Hid (j = K) := by
                        have h1 := HJ.out
                        rw [hd2, nameL, if_neg hLD] at h1
                        show _ = _
                        omega
                      have hLD' : isLD d.toNat = false := by simpa using hLD
                      rw [hbd] at hbj hlj
                      clear hd1 hd2 hbd HJ hLD
                      generalize d.toNat = dn at hbj hlj hLD'
                      go_wp2_with fail
                      refine (letter_any dn hlj _).mono ?_
                      rintro e w3 ⟨rfl, hw3⟩
                      subst w3
                      rw [hLD']
                      have HT1 : Hid (isLet cn = true → tokL (c :: r) = .nd (.mk 4 0 0 0 0 (u.extract 0 j) []) j) := by
                        have e : K = j := by have := HJE.out; omega
                        rw [← e]
                        exact HTD.out.1
                      clear HJE HK
                      go_wp2_with fail
                      refine (letter_any cn hcn _).mono ?_
                      rintro e w4 ⟨rfl, hw4⟩
                      subst w4
                      by_cases hlet : isLet cn = true
                      · have hld : isLD cn = true := by unfold isLD; rw [hlet]; rfl
                        have h57 : ¬ (cn : Int) ≤ 57 := by have := let57 ⟨cn, hcn⟩ hlet; simp only at this; omega
                        have h48 : (48 : Int) ≤ (cn : Int) := by omega
                        have ht := HT1.out hlet
                        rw [hld]
                        go_wp2_with fail
                        refine (nodeX_any rb _ s h _ _ _ _ _ _ _ _ _ _ _ 4 0 0 0 0 (u.extract 0 j) hB1).mono ?_
                        rintro e w5 ⟨rfl, hg5, hB5⟩
                        have hG5 := hG1.trans hg5
                        have hk1 : (j : Int) ≤ 100000 := by omega
                        have z3 := hB5.cell 3
                        have f3 := hB5.frozen 3
                        go_wp2
                        go_end0
                        exact HOK.out (by rw [ht]; rfl) _ (grownSet hG5 3 _) (by rw [ht]; exact hB5.set_ 3 _)
                      · have ht := HTD.out.2 (by simpa using hlet)
                        by_cases hld : isLD cn = true
                        · have hd : isDig cn = true := by
                            unfold isLD at hld
                            rw [Bool.or_eq_true] at hld
                            exact hld.resolve_left hlet
                          have h48 : (48 : Int) ≤ (cn : Int) := by unfold isDig at hd; simp only [Bool.and_eq_true, decide_eq_true_iff] at hd; omega
                          have h57 : (cn : Int) ≤ 57 := by unfold isDig at hd; simp only [Bool.and_eq_true, decide_eq_true_iff] at hd; omega
                          rw [hld]
                          go_wp2_with fail
                          refine (bad_any i _).mono ?_
                          rintro e w9 ⟨rfl, hw9⟩
                          subst w9
                          go_wp2
                          exact ⟨rfl, HBAD.out ht _ hG1⟩
                        · have hld' : isLD cn = false := by simpa using hld
                          rw [hld']
                          go_wp2_with fail
                          refine (bad_any i _).mono ?_
                          rintro e w9 ⟨rfl, hw9⟩
                          subst w9
                          go_wp2
                          exact ⟨rfl, HBAD.out ht _ hG1⟩
                  · have hjn' : ¬ (j : Int) < (u.size : Int) := by omega
                    have HJE : Hid (j = K) := by
                      have h1 := HJ.out
                      rw [List.drop_of_length_le (by simp; omega)] at h1
                      show _ = _
                      exact h1
                    clear HJ
                    have HT1 : Hid (isLet cn = true → tokL (c :: r) = .nd (.mk 4 0 0 0 0 (u.extract 0 j) []) j) := by
                      have e : K = j := by have := HJE.out; omega
                      rw [← e]
                      exact HTD.out.1
                    clear HJE HK
                    go_wp2_with fail
                    refine (letter_any cn hcn _).mono ?_
                    rintro e w4 ⟨rfl, hw4⟩
                    subst w4
                    by_cases hlet : isLet cn = true
                    · have hld : isLD cn = true := by unfold isLD; rw [hlet]; rfl
                      have h57 : ¬ (cn : Int) ≤ 57 := by have := let57 ⟨cn, hcn⟩ hlet; simp only at this; omega
                      have h48 : (48 : Int) ≤ (cn : Int) := by omega
                      have ht := HT1.out hlet
                      rw [hld]
                      go_wp2_with fail
                      refine (nodeX_any rb _ s h _ _ _ _ _ _ _ _ _ _ _ 4 0 0 0 0 (u.extract 0 j) hB1).mono ?_
                      rintro e w5 ⟨rfl, hg5, hB5⟩
                      have hG5 := hG1.trans hg5
                      have hk1 : (j : Int) ≤ 100000 := by omega
                      have z3 := hB5.cell 3
                      have f3 := hB5.frozen 3
                      go_wp2
                      go_end0
                      exact HOK.out (by rw [ht]; rfl) _ (grownSet hG5 3 _) (by rw [ht]; exact hB5.set_ 3 _)
                    · have ht := HTD.out.2 (by simpa using hlet)
                      by_cases hld : isLD cn = true
                      · have hd : isDig cn = true := by
                          unfold isLD at hld
                          rw [Bool.or_eq_true] at hld
                          exact hld.resolve_left hlet
                        have h48 : (48 : Int) ≤ (cn : Int) := by unfold isDig at hd; simp only [Bool.and_eq_true, decide_eq_true_iff] at hd; omega
                        have h57 : (cn : Int) ≤ 57 := by unfold isDig at hd; simp only [Bool.and_eq_true, decide_eq_true_iff] at hd; omega
                        rw [hld]
                        go_wp2_with fail
                        refine (bad_any i _).mono ?_
                        rintro e w9 ⟨rfl, hw9⟩
                        subst w9
                        go_wp2
                        exact ⟨rfl, HBAD.out ht _ hG1⟩
                      · have hld' : isLD cn = false := by simpa using hld
                        rw [hld']
                        go_wp2_with fail
                        refine (bad_any i _).mono ?_
                        rintro e w9 ⟨rfl, hw9⟩
                        subst w9
                        go_wp2
                        exact ⟨rfl, HBAD.out ht _ hG1⟩
  · obtain rfl : i = s.size := by omega
    have hl1 : l = [] := by rw [HL.out]; exact List.drop_of_length_le (Nat.le_of_eq (size_list s))
    subst hl1
    go_wp2
    (try simp only [Exit.inBlock, Exit.then])
    refine bodyPost_ret (results_none rfl _ _ _) rfl ?_
    exact HOK.out rfl _ hG1 hB1
end Go.Proofs.YtndhbdbfjkmloaaDoor
namespace Go.Proofs.YtndhbdbfjkmloaaDoor
open Go.RowKit

section
variable {s : ByteArray} {h : Bool} {rb : Nat} {l : List UInt8} {w : World}
theorem RdAt.of_ok {W : World} {i0 : Nat} (hi0 : i0 ≤ s.size) (hl : l = skipL false (s.data.toList.drop i0)) (hg : (tokL l).isBad = false) (hb : Blk W rb 119 (rdC s h (posL s l) (tkV (tokL l)))) : RdAt s h rb l W := by
  obtain ⟨n, hn, hd⟩ := skip_drop false (s.data.toList.drop i0)
  rw [List.length_drop, size_list] at hn
  refine ⟨hb, ⟨i0 + n, by omega, ?_⟩, hg⟩
  rw [hl, hd, List.drop_drop]
theorem RdAt.pos (H : RdAt s h rb l w) : posL s l ≤ s.size ∧ l = s.data.toList.drop (posL s l) ∧ posL s l + l.length = s.size := by
  obtain ⟨i, hi, hl⟩ := H.sfx
  have hp : posL s l = i := by rw [hl]; exact posL_drop hi
  rw [hp]
  refine ⟨hi, hl, ?_⟩
  rw [hl, List.length_drop, size_list]
  omega
theorem RdAt.below {W : World} (H : RdAt s h rb l w) (hb : Below w.heap.size w W) : RdAt s h rb l W := ⟨H.blk.below hb H.blk.lt, H.sfx, H.good⟩
theorem RdAt.grown {W : World} {r : Option Nat} (H : RdAt s h rb l w) (hg : w.grownBy W r) (hr : some rb ≠ r) : RdAt s h rb l W := ⟨H.blk.grown hg hr, H.sfx, H.good⟩
end
/-- what is kept, and where the reader stands -/
def tkn (t : Tok) : Nat := (tkV t).n
theorem tkn_le (l : List UInt8) : tkn (tokL l) ≤ l.length := by
  have := tok_b l
  cases ht : tokL l with
  | fin => exact Nat.zero_le _
  | bad => exact Nat.zero_le _
  | nd e n =>
    have := (tok_nd ht).2.1
    cases e
    exact this
  | sg c n => exact (tok_sgn ht).2.1
theorem rdC_get (s : ByteArray) (h : Bool) (i : Nat) (v : TkV) : rdC s h i v = #[.string s, .bool h, .int .i64 (i : Int), .int .i64 ((i + v.n : Nat) : Int), .bool v.nd, .int .i64 v.k, .int .u64 v.a, .int .u64 v.b, .int .u64 v.c, .int .u64 v.d, .string v.t, .slice none 0 0, .int .u8 (v.sg : Int)] := rfl
/-- on behind the sign -/
def GoQ (s : ByteArray) (h : Bool) (rb : Nat) (l : List UInt8) (w : World) (e : Ending) (w' : World) : Prop :=
  w.grownBy w' (some rb) ∧ (((tokL (goL l (tkn (tokL l)))).isBad = true ∧ e = .panicked [{ v := faultV (posL s (goL l (tkn (tokL l)))), recovered := false }]) ∨
    ((tokL (goL l (tkn (tokL l)))).isBad = false ∧ e = .returned (.tuple #[]) ∧ RdAt s h rb (goL l (tkn (tokL l))) w'))
set_option maxRecDepth 100000 in
set_option maxHeartbeats 4000000 in
theorem go_any (s : ByteArray) (hs : s.size ≤ 100000) (h : Bool) (rb : Nat) (l : List UInt8) (w : World) (H : RdAt s h rb l w) :
    Calls Tryd.prog 69 #[.pointer (some ⟨rb, 0, none⟩)] w (GoQ s h rb l w) := by
  obtain ⟨hp1, hp2, hp3⟩ := H.pos
  have hn := tkn_le l
  have hb := H.blk
  rw [rdC_get] at hb
  have hi0 : posL s l + tkn (tokL l) ≤ s.size := by omega
  have hg : goL l (tkn (tokL l)) = skipL false (s.data.toList.drop (posL s l + tkn (tokL l))) := by
    unfold goL
    rw [← List.drop_drop, ← hp2]
  have HN := Lib.hid (fun (Q : Ending → World → Prop) h1 h2 => next_any s hs h rb (posL s l + tkn (tokL l)) hi0 _ _ _ _ _ _ _ _ _ _ _ w hb Q (goL l (tkn (tokL l))) hg h1 h2)
  have HQ : Hid (((tokL (goL l (tkn (tokL l)))).isBad = false → ∀ W', w.grownBy W' (some rb) → Blk W' rb 119 (rdC s h (posL s (goL l (tkn (tokL l)))) (tkV (tokL (goL l (tkn (tokL l)))))) → GoQ s h rb l w (.returned (.tuple #[])) W') ∧
      ((tokL (goL l (tkn (tokL l)))).isBad = true → ∀ W', w.grownBy W' (some rb) → GoQ s h rb l w (.panicked [{ v := faultV (posL s (goL l (tkn (tokL l)))), recovered := false }]) W')) :=
    ⟨fun hb W' hg' hB => ⟨hg', .inr ⟨hb, rfl, RdAt.of_ok hi0 hg hb hB⟩⟩, fun hb W' hg' => ⟨hg', .inl ⟨hb, rfl⟩⟩⟩
  have x3 := hb.cell 3
  have hv : (tkV (tokL l)).n = tkn (tokL l) := rfl
  rw [hv] at x3
  clear hp1 hp2 hp3 hn hg hv
  generalize posL s (goL l (tkn (tokL l))) = p at HN HQ
  generalize goL l (tkn (tokL l)) = g at HN HQ
  generalize posL s l + tkn (tokL l) = i0 at HN hi0 x3
  generalize GoQ s h rb l w = Q at HQ ⊢
  clear H hb
  go_enter Tryd.func69, Tryd.ntmps69
  go_wp2_with fail
  refine HN.out _ ?_ ?_
  · intro hb W' hg' hB
    go_wp2
    go_end0
    exact HQ.out.1 hb W' hg' hB
  · intro hb W' hg'
    go_wp2
    exact ⟨rfl, HQ.out.2 hb W' hg'⟩
end Go.Proofs.YtndhbdbfjkmloaaDoor
