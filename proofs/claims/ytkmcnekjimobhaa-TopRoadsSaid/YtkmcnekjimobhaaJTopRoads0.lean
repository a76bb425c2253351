/- How many bits a word has: plain. Words of memory for this seat's proofs: a run of cells that can be read, a block that is known whole, ints, and what a world keeps. What is in a set, the first that is, and how many: plain. What math/bits answers: OnesCount64, TrailingZeros64. What set.Count answers. The machine that parses: plain. What the functions of package set that go word by word answer. What code.jumps and code.Check answer. -/
import Derived.Test.YtkmcnekjimobhaaRows
import Derived.WalkKit
import Derived.LoopTactic
import Derived.Below
import Derived.Laws.OwnMore
import Derived.Deep.AppendLies
import Derived.Deep.Draws
import Derived.Laws.Rows
import Derived.Maps.AppendAt
import Derived.RegionTactic
import Derived.OwnWalk
import Derived.Lib.Hide
import Derived.Test.YtkmcnekjimobhaaProg
import Derived.BigQuiet
import Derived.Deep.QuietTactic
import Derived.Lib.Bytealg
import Derived.Lib.IndexLaws
import Derived.Laws.Bits128
import Derived.Lib.TrailingZeros
import Derived.Deep.RegionHeld3
import Derived.Deep.RegionWith
import Derived.ChangeKeysEq
namespace Go.Proofs.Ytkmcnekjimobhaa
set_option maxRecDepth 100000
def rep : Nat -> Nat -> Nat
  | 0, _ => 0
  | n + 1, c => c + 256 * rep n c
def stA (n x : Nat) : Nat := (x / 2 &&& rep n 85) + (x &&& rep n 85)
def stB (n x : Nat) : Nat := (x / 4 &&& rep n 51) + (x &&& rep n 51)
def stC (n x : Nat) : Nat := (x / 16 + x) &&& rep n 15
def tot (n x : Nat) : Nat := stC n (stB n (stA n x))
end Go.Proofs.Ytkmcnekjimobhaa
namespace Go.Proofs.Ytkmcnekjimobhaa
set_option maxRecDepth 100000
open Go.RowKit
theorem add_block (a : Addr) (n : Nat) : (a.add n).block = a.block := by
  cases n with
  | zero => rfl
  | succ n => rfl
theorem add_add' (a : Addr) (i j : Nat) : (a.add i).add j = a.add (i + j) := by
  cases i with
  | zero => rw [Nat.zero_add]; rfl
  | succ i => cases j with
    | zero => rfl
    | succ j => simp [Addr.add]; omega
structure Reads (w : World) (B size : Nat) (A : Option Addr) (n : Nat) (xs : List Value) : Prop where
  len : xs.length = n * size
  lies : 0 < n -> ∃ ad : Addr, A = some ad /\ ad.block < B /\ ∀ j u, xs[j]? = some u -> w.cell? (ad.add j) = some u
section
variable {w w' : World} {B B' size n : Nat} {A : Option Addr} {xs : List Value}
theorem Reads.none_ : Reads w B size A 0 [] := ⟨by simp, by omega⟩
theorem Reads.at_ {k : Nat} (h : Reads w B 1 A n xs) (hk : k < n) : ∃ ad u, A = some ad /\ ad.block < B /\ xs[k]? = some u /\ w.cell? (ad.add k) = some u := by
  obtain ⟨ad, rfl, hb, hc⟩ := h.lies (by omega)
  have hx := List.getElem?_eq_getElem (l := xs) (i := k) (by have := h.len; omega)
  exact ⟨ad, _, rfl, hb, hx, hc k _ hx⟩
theorem Reads.keep (h : Reads w B size A n xs) (hk : ∀ p : Addr, p.block < B -> w'.cell? p = w.cell? p) : Reads w' B size A n xs where
  len := h.len
  lies hn := by
    obtain ⟨ad, e, hb, hc⟩ := h.lies hn
    refine ⟨ad, e, hb, fun j u hu => ?_⟩
    rw [hk _ (by rwa [add_block])]
    exact hc j u hu
theorem Reads.more (h : Reads w B size A n xs) (hB : B <= B') : Reads w B' size A n xs where
  len := h.len
  lies hn := by
    obtain ⟨ad, e, hb, hc⟩ := h.lies hn
    exact ⟨ad, e, Nat.lt_of_lt_of_le hb hB, hc⟩
theorem Reads.below (h : Reads w B size A n xs) (hb : Below B w w') : Reads w' B size A n xs := h.keep fun _ => hb.cell
theorem Reads.drewN (h : Reads w B size A n xs) (k : Nat) : Reads (w.drewN k) B size A n xs := ⟨h.len, h.lies⟩
theorem Reads.drew (h : Reads w B size A n xs) : Reads w.drew B size A n xs := ⟨h.len, h.lies⟩
theorem Reads.alloc (h : Reads w B size A n xs) (hB : B <= w.heap.size) (o : Obj) : Reads (w.alloc o) B size A n xs :=
  h.keep fun p hp => World.cell?_alloc_lt w o p (Nat.lt_of_lt_of_le hp hB)
theorem Reads.setCell (h : Reads w B size A n xs) {p : Addr} (hB : B <= p.block) (u : Value) : Reads (w.setCell p u) B size A n xs :=
  h.keep fun q hq => World.cell?_setCell_other w p q u (by rintro rfl; omega)
theorem Reads.grown (h : Reads w B size A n xs) {row : Option Nat} (hg : w.grownBy w' row) (hB : B <= w.heap.size) (hr : ∀ g, row = some g -> B <= g) : Reads w' B size A n xs :=
  h.keep fun p hp => World.cell?_of_block (hg.block p.block (by omega) fun e => by have := hr p.block e.symm; omega)
theorem Reads.of_own {base : Nat} {e : TypeId} {c : Nat} (h : w.ownsRow base e size (.slice A n c) n xs) : Reads w w.heap.size size A n xs where
  len := h.1
  lies hn := by
    obtain ⟨g, cap, hv, _, hlt⟩ := h.form hn
    simp only [Value.slice.injEq] at hv
    obtain ⟨rfl, -, -⟩ := hv
    exact ⟨⟨g, 0, none⟩, rfl, hlt, h.cells (g := g) rfl⟩
end
def Blk (w : World) (g : Nat) (t : TypeId) (cs : Array Value) : Prop := w.heap[g]? = some (.cells cs t (0, 0))
section
variable {w w' : World} {g : Nat} {t : TypeId} {cs : Array Value}
theorem Blk.lt (h : Blk w g t cs) : g < w.heap.size := (Array.getElem?_eq_some_iff.1 h).1
theorem Blk.cell (h : Blk w g t cs) (i : Nat) : w.cell? ⟨g, i, none⟩ = cs[i]? := cell_of_row w g i cs t (0, 0) h
theorem Blk.frozen (h : Blk w g t cs) (i : Nat) : w.frozen? ⟨g, i, none⟩ = false := by
  have h' : w.heap[g]? = some (.cells cs t (0, 0)) := h
  simp [World.frozen?, h']
theorem Blk.new (w : World) (t : TypeId) (cs : Array Value) : Blk (w.alloc (.cells cs t)) w.heap.size t cs := heap_alloc_new w _
theorem Blk.drewN (h : Blk w g t cs) (n : Nat) : Blk (w.drewN n) g t cs := h
theorem Blk.drew (h : Blk w g t cs) : Blk w.drew g t cs := h
theorem Blk.alloc (h : Blk w g t cs) (o : Obj) : Blk (w.alloc o) g t cs := (Below.heap_alloc w o g h.lt).trans h
theorem Blk.set_ (h : Blk w g t cs) (i : Nat) (u : Value) : Blk (w.setCell ⟨g, i, none⟩ u) g t (cs.setIfInBounds i u) := by
  have h' : w.heap[g]? = some (.cells cs t (0, 0)) := h
  show (w.setCell ⟨g, i, none⟩ u).heap[g]? = _
  simp [World.setCell, Array.getElem?_modify, h']
theorem Blk.far (h : Blk w g t cs) {p : Addr} (hp : g ≠ p.block) (u : Value) : Blk (w.setCell p u) g t cs := (Below.heap_setCell w p u g hp).trans h
theorem Blk.below {B : Nat} (h : Blk w g t cs) (hb : Below B w w') (hg : g < B) : Blk w' g t cs := (hb.block g hg).trans h
theorem Blk.grown {row : Option Nat} (h : Blk w g t cs) (hb : w.grownBy w' row) (hg : some g ≠ row) : Blk w' g t cs := (hb.block g h.lt hg).trans h
end
def I64 (z : Int) : Prop := -9223372036854775808 <= z /\ z <= 9223372036854775807
theorem below_drewN {B : Nat} {a w : World} (h : Below B a w) (n : Nat) : Below B a (w.drewN n) := ⟨h.os, h.tape, h.output, h.size, h.block⟩
theorem bl {B : Nat} {w w' : World} (h : Below B w w' := by repeat (first | exact Below.refl _ _ | assumption | refine Below.drew ?_ | refine below_drewN ?_ _ | refine Below.alloc ?_ (by first | omega | (simp; omega) | simp) _ | refine Below.setCell ?_ (by first | omega | (simp; omega) | simp) _)) : Below B w w' := h
theorem p1 {α : Type} (l : List α) (i : Nat) (a : α) : l.toArray.setIfInBounds i a = (l.set i a).toArray := List.setIfInBounds_toArray ..
theorem p2 {α : Type} (a : α) (l : List α) (n : Nat) (b : α) : (a :: l).set (n + 1) b = a :: l.set n b := rfl
theorem p3 {α : Type} (a : α) (l : List α) (b : α) : (a :: l).set 0 b = b :: l := rfl
theorem Blk.hit {w : World} {g : Nat} {t : TypeId} {cs : Array Value} (h : Blk w g t cs) (i : Nat) (u : Value) (hi : i < cs.size) : (w.setCell ⟨g, i, none⟩ u).cell? ⟨g, i, none⟩ = some u := by
 rw [(h.set_ i u).cell]; simp [hi]
theorem st7 {w : World} {g : Nat} {t : TypeId} {o0 o1 o2 o3 o4 o5 o6 : Value} (h : Blk w g t #[o0, o1, o2, o3, o4, o5, o6]) (n0 n1 n2 n3 n4 n5 n6 : Value) : w.cell? ⟨g, 0, none⟩ = some o0 /\ w.cell? ⟨g, 1, none⟩ = some o1 /\ w.cell? ⟨g, 2, none⟩ = some o2 /\ w.cell? ⟨g, 3, none⟩ = some o3 /\ w.cell? ⟨g, 4, none⟩ = some o4 /\ w.cell? ⟨g, 5, none⟩ = some o5 /\ w.cell? ⟨g, 6, none⟩ = some o6 /\ w.frozen? ⟨g, 0, none⟩ = false /\ w.frozen? ⟨g, 1, none⟩ = false /\ w.frozen? ⟨g, 2, none⟩ = false /\ w.frozen? ⟨g, 3, none⟩ = false /\ w.frozen? ⟨g, 4, none⟩ = false /\ w.frozen? ⟨g, 5, none⟩ = false /\ w.frozen? ⟨g, 6, none⟩ = false /\ (w.setCell ⟨g, 0, none⟩ n0).cell? ⟨g, 0, none⟩ = some n0 /\ ((w.setCell ⟨g, 0, none⟩ n0).setCell ⟨g, 1, none⟩ n1).cell? ⟨g, 1, none⟩ = some n1 /\ (((w.setCell ⟨g, 0, none⟩ n0).setCell ⟨g, 1, none⟩ n1).setCell ⟨g, 2, none⟩ n2).cell? ⟨g, 2, none⟩ = some n2 /\ ((((w.setCell ⟨g, 0, none⟩ n0).setCell ⟨g, 1, none⟩ n1).setCell ⟨g, 2, none⟩ n2).setCell ⟨g, 3, none⟩ n3).cell? ⟨g, 3, none⟩ = some n3 /\ (((((w.setCell ⟨g, 0, none⟩ n0).setCell ⟨g, 1, none⟩ n1).setCell ⟨g, 2, none⟩ n2).setCell ⟨g, 3, none⟩ n3).setCell ⟨g, 4, none⟩ n4).cell? ⟨g, 4, none⟩ = some n4 /\ ((((((w.setCell ⟨g, 0, none⟩ n0).setCell ⟨g, 1, none⟩ n1).setCell ⟨g, 2, none⟩ n2).setCell ⟨g, 3, none⟩ n3).setCell ⟨g, 4, none⟩ n4).setCell ⟨g, 5, none⟩ n5).cell? ⟨g, 5, none⟩ = some n5 /\ (((((((w.setCell ⟨g, 0, none⟩ n0).setCell ⟨g, 1, none⟩ n1).setCell ⟨g, 2, none⟩ n2).setCell ⟨g, 3, none⟩ n3).setCell ⟨g, 4, none⟩ n4).setCell ⟨g, 5, none⟩ n5).setCell ⟨g, 6, none⟩ n6).cell? ⟨g, 6, none⟩ = some n6 :=
 ⟨h.cell 0, h.cell 1, h.cell 2, h.cell 3, h.cell 4, h.cell 5, h.cell 6, h.frozen 0, h.frozen 1, h.frozen 2, h.frozen 3, h.frozen 4, h.frozen 5, h.frozen 6, h.hit 0 n0 (by simp), (h.set_ 0 n0).hit 1 n1 (by simp), ((h.set_ 0 n0).set_ 1 n1).hit 2 n2 (by simp), (((h.set_ 0 n0).set_ 1 n1).set_ 2 n2).hit 3 n3 (by simp), ((((h.set_ 0 n0).set_ 1 n1).set_ 2 n2).set_ 3 n3).hit 4 n4 (by simp), (((((h.set_ 0 n0).set_ 1 n1).set_ 2 n2).set_ 3 n3).set_ 4 n4).hit 5 n5 (by simp), ((((((h.set_ 0 n0).set_ 1 n1).set_ 2 n2).set_ 3 n3).set_ 4 n4).set_ 5 n5).hit 6 n6 (by simp)⟩
theorem below_app {B : Nat} {a w w' : World} {v : Value} {base n size : Nat} {e : TypeId} {xs : List Value} (h : Below B a w) (hown : w.ownsRow base e size v n xs) (hg : w.grownBy w' v.ownBlock) (hB : B <= w.heap.size) (hbase : B <= base) : Below B a w' :=
  h.grown hg hB fun k hk => by have := hown.lt k hk; omega
theorem own_form {w : World} {base : Nat} {e : TypeId} {size : Nat} {v : Value} {n : Nat} {xs : List Value} (h : w.ownsRow base e size v n xs) : ∃ V c, v = .slice V n c := by
  rcases h.2 with ⟨rfl, rfl⟩ | ⟨g, cap, _, rfl, _⟩
  · exact ⟨_, _, rfl⟩
  · exact ⟨_, _, rfl⟩
theorem grown_of_below {w w' : World} (h : Below w.heap.size w w') (row : Option Nat) : w.grownBy w' row := ⟨h.os, h.tape, h.output, h.size, fun k hk _ => h.block k hk⟩
theorem own_below {w w' : World} {base : Nat} {e : TypeId} {size : Nat} {v : Value} {n : Nat} {xs : List Value} (h : w.ownsRow base e size v n xs) (hb : Below w.heap.size w w') : w'.ownsRow base e size v n xs :=
  h.kept (grown_of_below hb none) (by cases h' : v.ownBlock <;> simp)
theorem own_far {w w' : World} {base : Nat} {e : TypeId} {size : Nat} {v : Value} {n : Nat} {xs : List Value} (h : w.ownsRow base e size v n xs) {g : Nat} (hg : w.grownBy w' (some g)) (hlt : g < base) : w'.ownsRow base e size v n xs :=
  h.kept hg (.inr fun e => by have := h.lt g e; omega)
theorem own_ne {w : World} {base : Nat} {e : TypeId} {size : Nat} {v : Value} {n : Nat} {xs : List Value} (h : w.ownsRow base e size v n xs) {b : Nat} (hb : b < base) : some b ≠ v.ownBlock := fun e => absurd (h.lt _ e.symm).1 (by omega)
theorem getElem?_lt {α : Type} {l : List α} {k : Nat} {x : α} (h : l[k]? = some x) : k < l.length := (List.getElem?_eq_some_iff.1 h).1
theorem take_succ_of {α : Type} {l : List α} {k : Nat} {x : α} (h : l[k]? = some x) : l.take (k + 1) = l.take k ++ [x] := by
  rw [List.take_add_one, h]; rfl
theorem ret_int {k : IntKind} {a b : Int} (h : a = b) : Ending.returned (.int k a) = .returned (.int k b) := by rw [h]
theorem ret_bool {a b : Bool} (h : a = b) : Ending.returned (.bool a) = .returned (.bool b) := by rw [h]
theorem made_run {P : Program} {t e : TypeId} {i : TypeInfo} {z : Value} (ht : P.underlying t = some (.slice e)) (hi : P.info? e = some i) (hz : i.zero = some z)
    (kl kc : IntKind) {n c : Nat} (hnc : n <= c) (hb : (i.bytes : Int) * (c : Int) <= 281474976710656) (hc : c <= 9223372036854775807) (w : World) :
    (Instr.makeSlice t (.int kl (n : Int)) (.int kc (c : Int))).run P w = .ok (.slice (some ⟨w.heap.size, 0, none⟩) n c) (w.alloc (.cells (madeCells z.cells (c * i.size)) e)) := by
  simpa using run_make (P := P) w t e i z ht hi hz kl kc (n : Int) (c : Int) (by omega) (by omega) hb (by omega)
theorem blk_at {w : World} {g : Nat} {t : TypeId} {cs : Array Value} (h : g = w.heap.size) : Blk (w.alloc (.cells cs t)) g t cs := by rw [h]; exact Blk.new w t cs
theorem Reads.on {w w' : World} {size n C : Nat} {A : Option Addr} {xs : List Value} (h : Reads w w.heap.size size A n xs) (hb : Below C w w') (hC : w.heap.size <= C) : Reads w' w'.heap.size size A n xs := (h.below (hb.mono hC)).more hb.size
end Go.Proofs.Ytkmcnekjimobhaa
namespace Go.Proofs.Ytkmcnekjimobhaa
set_option maxRecDepth 100000
open Go.RowKit
def bt (l : List UInt8) (k : Nat) : Nat := (l.getD k 0).toNat
theorem bt_of {s : ByteArray} {k : Nat} (h : k < s.size) : s[k].toNat = bt s.data.toList k := by
  have h' : k < s.data.toList.length := by simpa using h
  unfold bt
  rw [List.getD_eq_getElem?_getD, List.getElem?_eq_getElem h']
  rfl
theorem bt_lt (l : List UInt8) (k : Nat) : bt l k < 256 := (l.getD k 0).toNat_lt
theorem size_list (s : ByteArray) : s.data.toList.length = s.size := by simp
end Go.Proofs.Ytkmcnekjimobhaa
namespace Go.Proofs.Ytkmcnekjimobhaa
set_option maxRecDepth 100000
open Go.RowKit
def hasN (l : List Nat) (b : Nat) : Bool := (l.getD (b / 64) 0).testBit (b % 64)
def vals (l : List Nat) : Value := .agg #[.int .u64 (l.getD 0 0 : Nat), .int .u64 (l.getD 1 0 : Nat), .int .u64 (l.getD 2 0 : Nat), .int .u64 (l.getD 3 0 : Nat)]
def Words (l : List Nat) : Prop := ∀ i, l.getD i 0 < 18446744073709551616
theorem and63_u8 : ∀ b : Fin 256, bits .and .u8 ((b : Nat) : Int) 63 = (((b : Nat) % 64 : Nat) : Int) := by decide +kernel
theorem has_any (l : List Nat) (hl : Words l) (b : Nat) (hb : b < 256) (w : World) :
    Calls Try.prog 85 #[vals l, .int .u8 b] w fun e w' => e = .returned (.bool (hasN l b)) /\ Below w.heap.size w w' := by
  have hc : ∀ W : World, Hid (Blk W w.heap.size 34 #[.int .u64 (l.getD 0 0 : Nat), .int .u64 (l.getD 1 0 : Nat), .int .u64 (l.getD 2 0 : Nat), .int .u64 (l.getD 3 0 : Nat)] -> W.cell? ⟨w.heap.size, b / 64, none⟩ = some (.int .u64 (l.getD (b / 64) 0 : Nat))) := fun W hb => by
    rcases (by omega : b / 64 = 0 \/ b / 64 = 1 \/ b / 64 = 2 \/ b / 64 = 3) with h | h | h | h <;> rw [h]
    · exact hb.cell 0
    · exact hb.cell 1
    · exact hb.cell 2
    · exact hb.cell 3
  have hc0 := (hc (w.alloc (.cells #[.int .u64 (l.getD 0 0 : Nat), .int .u64 (l.getD 1 0 : Nat), .int .u64 (l.getD 2 0 : Nat), .int .u64 (l.getD 3 0 : Nat)] 34))).out (blk_at rfl)
  clear hc
  have hx := hl (b / 64)
  clear hl
  unfold vals
  have hand := and63_u8 ⟨b, hb⟩
  simp only at hand
  obtain ⟨q, hq⟩ : ∃ q : Nat, b / 64 = q := ⟨_, rfl⟩
  have hqi : (b : Int) / 64 = (q : Int) := by omega
  have hq0 : (0 : Int) <= (q : Int) := by omega
  have hq4 : (q : Int) < 4 := by omega
  obtain ⟨k, hk⟩ : ∃ k : Nat, b % 64 = k := ⟨_, rfl⟩
  rw [hk] at hand
  have HH : Hid (hasN l b = decide ((l.getD (b / 64) 0) / 2 ^ k % 2 = 1)) := by
    show hasN l b = _
    rw [hasN, Nat.testBit_eq_decide_div_mod_eq, hk]
  have hk64 : k < 64 := by omega
  have hk0 : (0 : Int) <= (k : Int) := by omega
  rw [hq] at hc0 hx HH
  generalize l.getD q 0 = x at hc0 hx HH
  have hbit : bits .and .u64 ((x : Int) / 2 ^ k) 1 = ((x / 2 ^ k % 2 : Nat) : Int) := by
    have h1 : x / 2 ^ k <= x := Nat.div_le_self _ _
    have := u64_and_nat (x / 2 ^ k) 1 (by omega) (by omega)
    rw [Nat.and_one_is_mod, show ((x / 2 ^ k : Nat) : Int) = (x : Int) / 2 ^ k from by simp] at this
    exact this
  rw [HH.out]
  generalize x / 2 ^ k % 2 = y at hbit ⊢
  generalize l.getD 0 0 = e0 at hc0 ⊢
  generalize l.getD 1 0 = e1 at hc0 ⊢
  generalize l.getD 2 0 = e2 at hc0 ⊢
  generalize l.getD 3 0 = e3 at hc0 ⊢
  clear HH hq hk
  go_enter Try.func85, Try.ntmps85
  go_wp2
  go_ret
  refine ⟨?_, bl⟩
  show Ending.returned (.bool ((y : Int) == 1)) = _
  rw [show ((y : Int) == 1) = decide (y = 1) from by rw [Bool.eq_iff_iff]; simp; omega]
end Go.Proofs.Ytkmcnekjimobhaa
namespace Go.Proofs.Ytkmcnekjimobhaa
set_option maxRecDepth 100000
def cnt (l : List Nat) : Nat -> Nat
  | 0 => 0
  | f + 1 => cnt l f + if hasN l f then 1 else 0
theorem cnt_gap (l : List Nat) (f : Nat) : ∀ k, (∀ j, f <= j -> j < f + k -> hasN l j = false) -> cnt l (f + k) = cnt l f
  | 0, _ => rfl
  | k + 1, h => by
    show cnt l (f + k + 1) = _
    rw [cnt, h (f + k) (by omega) (by omega), cnt_gap l f k (fun j h1 h2 => h j h1 (by omega))]
    simp
def FirstIs (l : List Nat) (f : Nat) (r : Int) : Prop :=
  (∃ b : Nat, r = b /\ f <= b /\ b < 256 /\ hasN l b = true /\ ∀ j, f <= j -> j < b -> hasN l j = false) \/ (r = -1 /\ ∀ j, f <= j -> j < 256 -> hasN l j = false)
theorem FirstIs.cnt {l : List Nat} {f b : Nat} (h : FirstIs l f (b : Int)) : f <= b /\ b < 256 /\ hasN l b = true /\ Go.Proofs.Ytkmcnekjimobhaa.cnt l (b + 1) = Go.Proofs.Ytkmcnekjimobhaa.cnt l f + 1 := by
  rcases h with ⟨b', e, h1, h2, h3, h4⟩ | ⟨e, _⟩
  · obtain rfl : b = b' := by omega
    refine ⟨h1, h2, h3, ?_⟩
    have := cnt_gap l f (b - f) (fun j h5 h6 => h4 j h5 (by omega))
    rw [show f + (b - f) = b from by omega] at this
    rw [Go.Proofs.Ytkmcnekjimobhaa.cnt, h3, this]
    simp
  · omega
theorem FirstIs.none {l : List Nat} {f : Nat} {r : Int} (h : FirstIs l f r) (hr : r < 0) (hf : f <= 256) : Go.Proofs.Ytkmcnekjimobhaa.cnt l f = Go.Proofs.Ytkmcnekjimobhaa.cnt l 256 := by
  rcases h with ⟨b', e, h1, h2, h3, h4⟩ | ⟨_, h⟩
  · omega
  · have := cnt_gap l f (256 - f) (fun j h5 h6 => h j h5 (by omega))
    rw [show f + (256 - f) = 256 from by omega] at this
    exact this.symm
end Go.Proofs.Ytkmcnekjimobhaa
namespace Go.Proofs.Ytkmcnekjimobhaa
set_option maxRecDepth 100000
open Go.RowKit
def TabAt (w : World) : Prop := ∀ j, j < Lib.deBruijn64tab.length -> w.cell? ⟨0, j, none⟩ = some (.int .u8 (Lib.deBruijn64tab.getD j 0))
theorem TabAt.pos {w : World} (h : TabAt w) : 0 < w.heap.size := World.block_lt_of_cell? w _ (h 0 (by decide))
theorem TabAt.below {w w' : World} {B : Nat} (h : TabAt w) (hb : Below B w w') (hB : 0 < B) : TabAt w' := fun j hj => (hb.cell hB).trans (h j hj)
end Go.Proofs.Ytkmcnekjimobhaa
namespace Go.Proofs.Ytkmcnekjimobhaa
set_option maxRecDepth 100000
structure In where
  op : Int
  n : Int
  a : Nat
  b : Nat
  c : Nat
  d : Nat
def In.set (x : In) : List Nat := [x.a, x.b, x.c, x.d]
def In.zero (x : In) : Bool := (x.a : Int) == 0 && ((x.b : Int) == 0 && ((x.c : Int) == 0 && (x.d : Int) == 0))
def jumpsB (op : Int) : Bool := decide (op = 2 \/ op = 3 \/ op = 4 \/ op = 5 \/ op = 9 \/ op = 10)
def okIn (m : Nat) (x : In) : Bool := decide (1 <= x.op) && decide (x.op <= 11) && decide (0 <= x.n) && decide (x.n <= if jumpsB x.op then (m : Int) - 1 else 0) && (decide (x.op = 1) || x.zero)
def checkM (l : List In) : Int := if 6000 < l.length then 2 else if l.all (okIn l.length) then 0 else 3
structure MS where
  pc : Nat
  at_ : Nat
  st : List (Nat × Int)
def failL : List (Nat × Int) -> Option (Nat × Nat × List (Nat × Int))
  | [] => none
  | (p, a) :: r => if 0 <= a then some (p, a.toNat, r) else failL r
def failM (st : List (Nat × Int)) : Except Int MS :=
  match failL st with
  | none => .error 0
  | some (p, a, r) => .ok ⟨p, a, r⟩
def pushM (pc at_ : Nat) (st : List (Nat × Int)) (x : Nat × Int) : Except Int MS := if st.length = 10000 then .error 14 else .ok ⟨pc, at_, x :: st⟩
def backM (x : In) (pc at_ : Nat) (st : List (Nat × Int)) : Except Int MS :=
  match st with
  | [] => .error 13
  | (p, a) :: r =>
    if decide (a < 0) = decide (x.op = 6) then
      if x.op = 6 then .ok ⟨p, at_, r⟩
      else if x.op = 4 then .ok ⟨x.n.toNat, at_, r⟩
      else if x.op = 9 then .ok ⟨x.n.toNat, at_, (p, at_) :: r⟩
      else if x.op = 10 then .ok ⟨x.n.toNat, a.toNat, r⟩
      else if x.op = 11 then failM r
      else .ok ⟨pc, at_, r⟩
    else .error 13
def oneM (s : List UInt8) (x : In) (m : MS) : Except Int MS :=
  if x.op = 1 then (if m.at_ = s.length \/ hasN x.set (s.getD m.at_ 0).toNat = false then failM m.st else .ok ⟨m.pc + 1, m.at_ + 1, m.st⟩)
  else if x.op = 2 then .ok ⟨x.n.toNat, m.at_, m.st⟩
  else if x.op = 3 then pushM (m.pc + 1) m.at_ m.st (x.n.toNat, m.at_)
  else if x.op = 5 then pushM x.n.toNat m.at_ m.st (m.pc + 1, -1)
  else if x.op = 7 then failM m.st
  else backM x (m.pc + 1) m.at_ m.st
def runM (l : List In) (s : List UInt8) : Nat -> MS -> Bool × Nat × Int
  | k, m => match l[m.pc]? with
    | none => (false, 0, 13)
    | some x => match k with
      | 0 => (false, 0, 10)
      | k + 1 => if x.op = 8 then (true, m.at_, 0) else match oneM s x m with
        | .ok m' => runM l s k m'
        | .error e => (false, 0, e)
def codeM (l : List In) (s : List UInt8) (steps : Int) : Bool × Nat × Int :=
  if checkM l ≠ 0 then (false, 0, checkM l) else if 60 < s.length then (false, 0, 2) else if steps < 0 \/ 16777216 < steps then (false, 0, 1) else runM l s steps.toNat ⟨0, 0, []⟩
end Go.Proofs.Ytkmcnekjimobhaa
namespace Go.Proofs.Ytkmcnekjimobhaa
set_option maxHeartbeats 1600000
set_option maxRecDepth 100000
open Go.RowKit
structure S4 where
  a : Int
  b : Int
  c : Int
  d : Int
def S4.val (s : S4) : Value := .agg #[.int .u64 s.a, .int .u64 s.b, .int .u64 s.c, .int .u64 s.d]
def S4.map2 (f : Int -> Int -> Int) (s t : S4) : S4 := ⟨f s.a t.a, f s.b t.b, f s.c t.c, f s.d t.d⟩
def orU (x y : Int) : Int := bits .or .u64 x y
def andU (x y : Int) : Int := bits .and .u64 x y
def Computes (F : Nat) (f : Int -> Int -> Int) : Prop := ∀ (x y : Int) (w : World), Calls Try.prog F #[.int .u64 x, .int .u64 y] w fun e w' => e = .returned (.int .u64 (f x y)) /\ w = w'
theorem join_fn : Computes 157 orU := by
  intro x y w
  go_enter Try.func157, Try.ntmps157
  go_wp2
  go_ret
  exact ⟨rfl, rfl⟩
def stage (f : Int -> Int -> Int) (s t : S4) (k : Nat) : Array Value :=
  #[.int .u64 (if 0 < k then f s.a t.a else s.a), .int .u64 (if 1 < k then f s.b t.b else s.b), .int .u64 (if 2 < k then f s.c t.c else s.c), .int .u64 (if 3 < k then f s.d t.d else s.d)]
theorem stage_step (f : Int -> Int -> Int) (s t : S4) (k : Nat) (hk : k < 4) :
    ∃ x y, (stage f s t k)[k]? = some (.int .u64 x) /\ (stage f t t 0)[k]? = some (.int .u64 y) /\ (stage f s t k).setIfInBounds k (.int .u64 (f x y)) = stage f s t (k + 1) := by
  rcases (by omega : k = 0 \/ k = 1 \/ k = 2 \/ k = 3) with rfl | rfl | rfl | rfl
  · exact ⟨s.a, t.a, rfl, rfl, rfl⟩
  · exact ⟨s.b, t.b, rfl, rfl, rfl⟩
  · exact ⟨s.c, t.c, rfl, rfl, rfl⟩
  · exact ⟨s.d, t.d, rfl, rfl, rfl⟩
theorem both_join (s t : S4) (w : World) :
    Calls Try.prog 156 #[s.val, t.val, .func (.func 157) #[] #[]] w fun e w' => e = .returned (S4.map2 orU s t).val /\ Below w.heap.size w w' := by
  unfold S4.val
  go_enter Try.func156, Try.ntmps156
  go_wp2
  go_loopw [7, 8] (fun _ i wr => ∃ k : Nat, k <= 4 /\ i = .int .i64 k /\ Blk wr w.heap.size 34 (stage orU s t k) /\ Blk wr (w.heap.size + 1) 34 (stage orU t t 0) /\ Blk wr (w.heap.size + 1 + 1) 34 #[.int .u64 0, .int .u64 0, .int .u64 0, .int .u64 0] /\ Below w.heap.size w wr) (fun _ i _ => 4 - (intOf i).toNat)
  case atStart => exact ⟨0, by omega, rfl, ((blk_at rfl).alloc _).alloc _, (blk_at (by simp)).alloc _, blk_at (by simp), bl⟩
  case round =>
    obtain ⟨k, hk, rfl, hs, ht, hz, hbw⟩ := hrel
    by_cases hk4 : k < 4
    · obtain ⟨x, y, hx, hy, hn⟩ := stage_step orU s t k hk4
      have hcx := hs.cell k
      have hcy := ht.cell k
      have hfz := hs.frozen k
      rw [hx] at hcx
      rw [hy] at hcy
      have HN := Lib.hid hn
      clear hx hy hn
      have hk0 : (0 : Int) <= (k : Int) := by omega
      have hk1 : (k : Int) < 4 := by omega
      go_wp2_with fail
      go_region_with (go_at_call 157; refine (join_fn x y _).mono ?_; rintro e w' ⟨rfl, rfl⟩)
      all_goals
        go_wp2
        go_roundw
        case rel =>
          refine ⟨k + 1, by omega, by go_num, ?_, ht.far (by simp) _, hz.far (by simp; omega) _, (hbw.drew).setCell (Nat.le_refl _) _⟩
          have := (hs.drew).set_ k (.int .u64 (orU x y))
          rw [HN.out] at this
          exact this
        case measure => simp [intOf]; omega
    · obtain rfl : k = 4 := by omega
      have h0 : wr.cell? ⟨w.heap.size, 0, none⟩ = some (.int .u64 (orU s.a t.a)) := hs.cell 0
      have h1 : wr.cell? ⟨w.heap.size, 1, none⟩ = some (.int .u64 (orU s.b t.b)) := hs.cell 1
      have h2 : wr.cell? ⟨w.heap.size, 2, none⟩ = some (.int .u64 (orU s.c t.c)) := hs.cell 2
      have h3 : wr.cell? ⟨w.heap.size, 3, none⟩ = some (.int .u64 (orU s.d t.d)) := hs.cell 3
      have z0 : wr.cell? ⟨w.heap.size + 1 + 1, 0, none⟩ = some (.int .u64 0) := hz.cell 0
      have z1 : wr.cell? ⟨w.heap.size + 1 + 1, 1, none⟩ = some (.int .u64 0) := hz.cell 1
      have z2 : wr.cell? ⟨w.heap.size + 1 + 1, 2, none⟩ = some (.int .u64 0) := hz.cell 2
      have z3 : wr.cell? ⟨w.heap.size + 1 + 1, 3, none⟩ = some (.int .u64 0) := hz.cell 3
      have f0 := hz.frozen 0
      have f1 := hz.frozen 1
      have f2 := hz.frozen 2
      have f3 := hz.frozen 3
      have e0 : (wr.setCell ⟨w.heap.size + 1 + 1, 0, none⟩ (.int .u64 (orU s.a t.a))).cell? ⟨w.heap.size + 1 + 1, 0, none⟩ = some (.int .u64 (orU s.a t.a)) := (hz.set_ 0 _).cell 0
      have e1 : ((wr.setCell ⟨w.heap.size + 1 + 1, 0, none⟩ (.int .u64 (orU s.a t.a))).setCell ⟨w.heap.size + 1 + 1, 1, none⟩ (.int .u64 (orU s.b t.b))).cell? ⟨w.heap.size + 1 + 1, 1, none⟩ = some (.int .u64 (orU s.b t.b)) := ((hz.set_ 0 _).set_ 1 _).cell 1
      have e2 : (((wr.setCell ⟨w.heap.size + 1 + 1, 0, none⟩ (.int .u64 (orU s.a t.a))).setCell ⟨w.heap.size + 1 + 1, 1, none⟩ (.int .u64 (orU s.b t.b))).setCell ⟨w.heap.size + 1 + 1, 2, none⟩ (.int .u64 (orU s.c t.c))).cell? ⟨w.heap.size + 1 + 1, 2, none⟩ = some (.int .u64 (orU s.c t.c)) := (((hz.set_ 0 _).set_ 1 _).set_ 2 _).cell 2
      have e3 : ((((wr.setCell ⟨w.heap.size + 1 + 1, 0, none⟩ (.int .u64 (orU s.a t.a))).setCell ⟨w.heap.size + 1 + 1, 1, none⟩ (.int .u64 (orU s.b t.b))).setCell ⟨w.heap.size + 1 + 1, 2, none⟩ (.int .u64 (orU s.c t.c))).setCell ⟨w.heap.size + 1 + 1, 3, none⟩ (.int .u64 (orU s.d t.d))).cell? ⟨w.heap.size + 1 + 1, 3, none⟩ = some (.int .u64 (orU s.d t.d)) := ((((hz.set_ 0 _).set_ 1 _).set_ 2 _).set_ 3 _).cell 3
      go_wp2
      exact bodyPost_ret (v := (S4.map2 orU s t).val) (by simp [results, Try.results156, go_sem, e0, e1, e2, e3]; rfl) rfl ⟨rfl, bl⟩
end Go.Proofs.Ytkmcnekjimobhaa
namespace Go.Proofs.Ytkmcnekjimobhaa
set_option maxRecDepth 100000
set_option maxHeartbeats 1600000
open Go.RowKit
theorem join_any (s t : S4) (w : World) : Calls Try.prog 148 #[s.val, t.val] w fun e w' => e = .returned (S4.map2 orU s t).val /\ Below w.heap.size w w' := by
  have hc := both_join s t
  have HC := Lib.hid hc
  clear hc
  unfold S4.val at HC ⊢
  go_enter Try.func148, Try.ntmps148
  go_wp2_with fail
  refine (HC.out _).mono ?_
  rintro e w1 ⟨rfl, hb1⟩
  have hz : Blk w1 (w.heap.size + 1 + 1) 34 #[.int .u64 0, .int .u64 0, .int .u64 0, .int .u64 0] := (blk_at (by simp)).below hb1 (by simp)
  have hw1 : Below w.heap.size w w1 := Below.trans bl (hb1.mono (by first | omega | (simp; omega) | simp))
  have hz1 := hw1.size
  clear hb1
  have z0 : w1.cell? ⟨w.heap.size + 1 + 1, 0, none⟩ = some (.int .u64 0) := hz.cell 0
  have z1 : w1.cell? ⟨w.heap.size + 1 + 1, 1, none⟩ = some (.int .u64 0) := hz.cell 1
  have z2 : w1.cell? ⟨w.heap.size + 1 + 1, 2, none⟩ = some (.int .u64 0) := hz.cell 2
  have z3 : w1.cell? ⟨w.heap.size + 1 + 1, 3, none⟩ = some (.int .u64 0) := hz.cell 3
  have f0 := hz.frozen 0
  have f1 := hz.frozen 1
  have f2 := hz.frozen 2
  have f3 := hz.frozen 3
  have e0 : (w1.setCell ⟨w.heap.size + 1 + 1, 0, none⟩ (.int .u64 (orU s.a t.a))).cell? ⟨w.heap.size + 1 + 1, 0, none⟩ = some (.int .u64 (orU s.a t.a)) := (hz.set_ 0 _).cell 0
  have e1 : ((w1.setCell ⟨w.heap.size + 1 + 1, 0, none⟩ (.int .u64 (orU s.a t.a))).setCell ⟨w.heap.size + 1 + 1, 1, none⟩ (.int .u64 (orU s.b t.b))).cell? ⟨w.heap.size + 1 + 1, 1, none⟩ = some (.int .u64 (orU s.b t.b)) := ((hz.set_ 0 _).set_ 1 _).cell 1
  have e2 : (((w1.setCell ⟨w.heap.size + 1 + 1, 0, none⟩ (.int .u64 (orU s.a t.a))).setCell ⟨w.heap.size + 1 + 1, 1, none⟩ (.int .u64 (orU s.b t.b))).setCell ⟨w.heap.size + 1 + 1, 2, none⟩ (.int .u64 (orU s.c t.c))).cell? ⟨w.heap.size + 1 + 1, 2, none⟩ = some (.int .u64 (orU s.c t.c)) := (((hz.set_ 0 _).set_ 1 _).set_ 2 _).cell 2
  have e3 : ((((w1.setCell ⟨w.heap.size + 1 + 1, 0, none⟩ (.int .u64 (orU s.a t.a))).setCell ⟨w.heap.size + 1 + 1, 1, none⟩ (.int .u64 (orU s.b t.b))).setCell ⟨w.heap.size + 1 + 1, 2, none⟩ (.int .u64 (orU s.c t.c))).setCell ⟨w.heap.size + 1 + 1, 3, none⟩ (.int .u64 (orU s.d t.d))).cell? ⟨w.heap.size + 1 + 1, 3, none⟩ = some (.int .u64 (orU s.d t.d)) := ((((hz.set_ 0 _).set_ 1 _).set_ 2 _).set_ 3 _).cell 3
  unfold S4.map2 at *
  go_wp2
  exact bodyPost_ret (v := .agg #[.int .u64 (orU s.a t.a), .int .u64 (orU s.b t.b), .int .u64 (orU s.c t.c), .int .u64 (orU s.d t.d)]) (by simp [results, Try.results148, go_sem, e0, e1, e2, e3]) rfl ⟨rfl, bl⟩
end Go.Proofs.Ytkmcnekjimobhaa
namespace Go.Proofs.Ytkmcnekjimobhaa
set_option maxRecDepth 100000
set_option maxHeartbeats 1600000
open Go.RowKit
def rangeL (lo : Nat) : Nat -> List Nat
  | 0 => [0, 0, 0, 0]
  | k + 1 => (rangeL lo k).set ((lo + k) / 64) ((rangeL lo k).getD ((lo + k) / 64) 0 ||| 2 ^ ((lo + k) % 64))
def words (l : List Nat) : Array Value := (l.map fun x : Nat => Value.int .u64 x).toArray
theorem four_of {l : List Nat} (h : l.length = 4) : ∃ x0 x1 x2 x3, l = [x0, x1, x2, x3] :=
  match l, h with
  | [x0, x1, x2, x3], _ => ⟨x0, x1, x2, x3, rfl⟩
theorem rangeL_len (lo : Nat) : ∀ k, (rangeL lo k).length = 4
  | 0 => rfl
  | k + 1 => by rw [rangeL, List.length_set, rangeL_len lo k]
theorem words_get {l : List Nat} {i : Nat} (h : i < l.length) : (words l)[i]? = some (.int .u64 ((l.getD i 0 : Nat) : Int)) := by
  simp [words, h]
theorem words_set (l : List Nat) (i : Nat) (x : Nat) : (words l).setIfInBounds i (.int .u64 (x : Int)) = words (l.set i x) := by
  simp [words, List.map_set]
theorem and63 (b : Nat) (h : b < 256) : bits .and .i64 (b : Int) 63 = ((b % 64 : Nat) : Int) := by
  have h' : ∀ b : Fin 256, bits .and .i64 ((b : Nat) : Int) 63 = (((b : Nat) % 64 : Nat) : Int) := by decide +kernel
  exact h' ⟨b, h⟩
theorem or_bit {x r : Nat} (hx : x < 18446744073709551616) (hr : r < 64) : bits .or .u64 (x : Int) (IntKind.u64.wrap (2 ^ r)) = ((x ||| 2 ^ r : Nat) : Int) := by
  have h2 : (2 : Nat) ^ r < 18446744073709551616 := by
    have : (2 : Nat) ^ r < 2 ^ 64 := Nat.pow_lt_pow_right (by omega) hr
    simpa using this
  have h3 : IntKind.u64.wrap (2 ^ r) = ((2 ^ r : Nat) : Int) := by
    rw [show ((2 : Int) ^ r) = ((2 ^ r : Nat) : Int) by simp]
    generalize 2 ^ r = p at *
    rw [IntKind.wrap_u64]
    omega
  rw [h3, u64_or_nat x (2 ^ r) hx h2]
theorem rangeL_lt (lo : Nat) : ∀ k i, (rangeL lo k).getD i 0 < 18446744073709551616
  | 0, i => by
    match i with
    | 0 => show 0 < 18446744073709551616; decide
    | 1 => show 0 < 18446744073709551616; decide
    | 2 => show 0 < 18446744073709551616; decide
    | 3 => show 0 < 18446744073709551616; decide
    | i + 4 => simp [rangeL]
  | k + 1, i => by
    have ih := rangeL_lt lo k
    rw [rangeL, List.getD_eq_getElem?_getD, List.getElem?_set]
    split
    · split
      · have h1 : (2 : Nat) ^ ((lo + k) % 64) < 2 ^ 64 := Nat.pow_lt_pow_right (by omega) (Nat.mod_lt _ (by omega))
        have h2 := ih ((lo + k) / 64)
        have := Nat.or_lt_two_pow (n := 64) (by simpa using h2) h1
        simpa using this
      · simp
    · have := ih i
      rwa [List.getD_eq_getElem?_getD] at this
theorem range_any (low high : Int) (w : World) (h1 : I64 low) (h2 : I64 high) (lo n : Nat) (hlo : (low <= 0 /\ lo = 0) \/ (low = lo /\ 0 < lo)) (hn : n = (min 255 high + 1 - lo).toNat) :
    Calls Try.prog 27 #[.int .i64 low, .int .i64 high] w fun e w' => e = .returned (.agg (words (rangeL lo n))) /\ Below w.heap.size w w' := by
  obtain ⟨h1a, h1b⟩ := h1
  obtain ⟨h2a, h2b⟩ := h2
  have hn1 : n = 0 \/ (lo : Int) + n <= 256 := by omega
  have HN := Lib.hid hn
  clear hn
  have h0 : Hid (low <= 0 -> lo = 0) := fun h => by omega
  rcases (show low <= 0 \/ (low = lo /\ 0 < lo) by omega) with hlo | ⟨rfl, hlo⟩
  all_goals
    go_enter Try.func27, Try.ntmps27
    go_wp2
    go_loopw [5] (fun i wr => ∃ b k : Nat, b = lo + k /\ k <= n /\ i = .int .i64 b /\ Blk wr w.heap.size 34 (words (rangeL lo k)) /\ Below w.heap.size w wr) (fun i _ => 300 - (intOf i).toNat)
    case atStart => exact ⟨lo, 0, rfl, by omega, by first | rfl | (rw [h0.out hlo]; rfl), blk_at rfl, bl⟩
    case round =>
      obtain ⟨b, k, hbk, hk, rfl, hb, hbw⟩ := hrel
      have HBK := Lib.hid hbk
      by_cases hkn : k < n
      · have hb256 : b < 256 := by omega
        have hle : (b : Int) <= min 255 high := by have := HN.out; omega
        have hl := rangeL_len lo k
        obtain ⟨q, r, hq, hr, hr64, hq4, hqn, hrn⟩ : ∃ q r : Nat, (b : Int) / 64 = q /\ bits .and .i64 (b : Int) 63 = r /\ r < 64 /\ q < 4 /\ (lo + k) / 64 = q /\ (lo + k) % 64 = r :=
          ⟨b / 64, b % 64, by omega, by rw [and63 b hb256], by omega, by omega, by omega, by omega⟩
        have HQ := Lib.hid hqn
        have HR := Lib.hid hrn
        have hc := hb.cell q
        have hf := hb.frozen q
        rw [words_get (by omega)] at hc
        generalize hx : (rangeL lo k).getD q 0 = x at hc
        have HX := Lib.hid hx
        have HL := Lib.hid hl
        clear hx hl hbk hqn hrn
        by_cases hh : high < 255
        · go_wp2
          go_region
          all_goals
            go_wp2
            go_roundw
            case rel =>
              refine ⟨b + 1, k + 1, by have := HBK.out; omega, by omega, by go_num, ?_, (hbw.drew).setCell (Nat.le_refl _) _⟩
              have h := (hb.drew).set_ q (.int .u64 ((x ||| 2 ^ r : Nat) : Int))
              rw [words_set, <- HX.out, <- HQ.out, <- HR.out] at h
              rw [or_bit (by rw [<- HX.out]; exact rangeL_lt lo k q) hr64, <- HX.out]
              rw [<- HQ.out, <- HR.out]
              exact h
            case measure => simp [intOf]; omega
        · go_wp2
          go_region
          all_goals
            go_wp2
            go_roundw
            case rel =>
              refine ⟨b + 1, k + 1, by have := HBK.out; omega, by omega, by go_num, ?_, (hbw.drew).setCell (Nat.le_refl _) _⟩
              have h := (hb.drew).set_ q (.int .u64 ((x ||| 2 ^ r : Nat) : Int))
              rw [words_set, <- HX.out, <- HQ.out, <- HR.out] at h
              rw [or_bit (by rw [<- HX.out]; exact rangeL_lt lo k q) hr64, <- HX.out]
              rw [<- HQ.out, <- HR.out]
              exact h
            case measure => simp [intOf]; omega
      · obtain rfl : k = n := by omega
        have hl := rangeL_len lo k
        have hgt : min 255 high < b := by have := HN.out; have := HBK.out; omega
        obtain ⟨x0, x1, x2, x3, hL⟩ := four_of hl
        rw [hL] at hb
        have HLL := Lib.hid hL
        clear hL hl
        have c0 : wr.cell? ⟨w.heap.size, 0, none⟩ = some (.int .u64 x0) := hb.cell 0
        have c1 : wr.cell? ⟨w.heap.size, 1, none⟩ = some (.int .u64 x1) := hb.cell 1
        have c2 : wr.cell? ⟨w.heap.size, 2, none⟩ = some (.int .u64 x2) := hb.cell 2
        have c3 : wr.cell? ⟨w.heap.size, 3, none⟩ = some (.int .u64 x3) := hb.cell 3
        have f0 := hb.frozen 0
        have f1 := hb.frozen 1
        have f2 := hb.frozen 2
        have f3 := hb.frozen 3
        have e0 : (wr.setCell ⟨w.heap.size, 0, none⟩ (.int .u64 (x0 : Int))).cell? ⟨w.heap.size, 0, none⟩ = some (.int .u64 (x0 : Int)) := (hb.set_ 0 _).cell 0
        have e1 : ((wr.setCell ⟨w.heap.size, 0, none⟩ (.int .u64 (x0 : Int))).setCell ⟨w.heap.size, 1, none⟩ (.int .u64 (x1 : Int))).cell? ⟨w.heap.size, 1, none⟩ = some (.int .u64 (x1 : Int)) := ((hb.set_ 0 _).set_ 1 _).cell 1
        have e2 : (((wr.setCell ⟨w.heap.size, 0, none⟩ (.int .u64 (x0 : Int))).setCell ⟨w.heap.size, 1, none⟩ (.int .u64 (x1 : Int))).setCell ⟨w.heap.size, 2, none⟩ (.int .u64 (x2 : Int))).cell? ⟨w.heap.size, 2, none⟩ = some (.int .u64 (x2 : Int)) := (((hb.set_ 0 _).set_ 1 _).set_ 2 _).cell 2
        have e3 : ((((wr.setCell ⟨w.heap.size, 0, none⟩ (.int .u64 (x0 : Int))).setCell ⟨w.heap.size, 1, none⟩ (.int .u64 (x1 : Int))).setCell ⟨w.heap.size, 2, none⟩ (.int .u64 (x2 : Int))).setCell ⟨w.heap.size, 3, none⟩ (.int .u64 (x3 : Int))).cell? ⟨w.heap.size, 3, none⟩ = some (.int .u64 (x3 : Int)) := ((((hb.set_ 0 _).set_ 1 _).set_ 2 _).set_ 3 _).cell 3
        by_cases hh : high < 255
        all_goals
          go_wp2
          exact bodyPost_ret (v := .agg #[.int .u64 x0, .int .u64 x1, .int .u64 x2, .int .u64 x3]) (by simp [results, Try.results27, go_sem, e0, e1, e2, e3]) rfl ⟨by rw [HLL.out]; rfl, bl⟩
end Go.Proofs.Ytkmcnekjimobhaa
namespace Go.Proofs.Ytkmcnekjimobhaa
set_option maxRecDepth 100000
set_option maxHeartbeats 1600000
open Go.RowKit
theorem u64_info : (Try.prog.info? 32).map (fun i => (i.zero, i.size, i.bytes)) = some (some (.int .u64 0), 1, 8) := by kernel_rfl
theorem u64_cells : Try.prog.cellsOf 32 = 1 := by kernel_rfl
theorem part_u64 (w : World) (cs : Array Value) (i : Nat) (x : Int) (h : cs[i]? = some (.int .u64 x)) : (part 32 cs i).run Try.prog w = .ok (.int .u64 x) w := by
  have hu := Try.underlying32
  simp [part, isAgg, run_underlying hu, h]
theorem run_eq_u64 (w : World) (d : Nat) (a b : Int) : (Op.equalIn (d + 1) 32 (.int .u64 a) (.int .u64 b)).run Try.prog w = .ok (a == b) w := run_equalIn_int w d _ .u64 .u64 a b Try.underlying32
theorem run_same_set (w : World) (a b c d a' b' c' d' : Int) : (Op.equalIn 10000 34 (.agg #[.int .u64 a, .int .u64 b, .int .u64 c, .int .u64 d]) (.agg #[.int .u64 a', .int .u64 b', .int .u64 c', .int .u64 d'])).run Try.prog w = .ok (a == a' && (b == b' && (c == c' && d == d'))) w := by
  obtain ⟨i, hi, _⟩ := info_parts u64_info
  show (Op.equalIn (9999 + 1) 34 _ _).run Try.prog w = _
  rw [run_equalIn_array w 9999 _ _ Try.underlying34 hi, u64_cells]
  show (Op.eqItems (9998 + 1) 32 1 _ _ [0, 1, 2, 3]).run _ _ = _
  generalize 9998 = n
  simp only [Op.eqItems, Sem.run_bind, part_u64 w #[.int .u64 a, .int .u64 b, .int .u64 c, .int .u64 d] (0 * 1) a rfl, part_u64 w #[.int .u64 a, .int .u64 b, .int .u64 c, .int .u64 d] (1 * 1) b rfl, part_u64 w #[.int .u64 a, .int .u64 b, .int .u64 c, .int .u64 d] (2 * 1) c rfl, part_u64 w #[.int .u64 a, .int .u64 b, .int .u64 c, .int .u64 d] (3 * 1) d rfl,
    part_u64 w #[.int .u64 a', .int .u64 b', .int .u64 c', .int .u64 d'] (0 * 1) a' rfl, part_u64 w #[.int .u64 a', .int .u64 b', .int .u64 c', .int .u64 d'] (1 * 1) b' rfl, part_u64 w #[.int .u64 a', .int .u64 b', .int .u64 c', .int .u64 d'] (2 * 1) c' rfl, part_u64 w #[.int .u64 a', .int .u64 b', .int .u64 c', .int .u64 d'] (3 * 1) d' rfl, run_eq_u64, Result.andThen_ok, Sem.run_ite, Sem.run_pure]
  cases a == a' <;> cases b == b' <;> cases c == c' <;> cases d == d' <;> simp
end Go.Proofs.Ytkmcnekjimobhaa
namespace Go.Proofs.Ytkmcnekjimobhaa
set_option maxRecDepth 100000
set_option maxHeartbeats 1600000
open Go.RowKit
def U64 (x : Int) : Prop := 0 <= x /\ x < 18446744073709551616
theorem U64.nat {x : Int} (h : U64 x) : ∃ v : BitVec 64, x = (v.toNat : Int) := by
  obtain ⟨n, rfl⟩ := Int.eq_ofNat_of_zero_le h.1
  refine ⟨BitVec.ofNat 64 n, ?_⟩
  have := h.2
  rw [BitVec.toNat_ofNat, Nat.mod_eq_of_lt (by omega)]
theorem orU_bv (u v : BitVec 64) : orU (u.toNat : Int) (v.toNat : Int) = ((u ||| v).toNat : Int) := by
  unfold orU; rw [u64_or_nat _ _ u.isLt v.isLt, BitVec.toNat_or]
theorem andU_bv (u v : BitVec 64) : andU (u.toNat : Int) (v.toNat : Int) = ((u &&& v).toNat : Int) := by
  unfold andU; rw [u64_and_nat _ _ u.isLt v.isLt, BitVec.toNat_and]
theorem U64.or {x y : Int} (hx : U64 x) (hy : U64 y) : U64 (orU x y) := by
  obtain ⟨u, rfl⟩ := hx.nat; obtain ⟨v, rfl⟩ := hy.nat
  rw [orU_bv]; exact ⟨by omega, by have := (u ||| v).isLt; omega⟩
theorem U64.and {x y : Int} (hx : U64 x) (hy : U64 y) : U64 (andU x y) := by
  obtain ⟨u, rfl⟩ := hx.nat; obtain ⟨v, rfl⟩ := hy.nat
  rw [andU_bv]; exact ⟨by omega, by have := (u &&& v).isLt; omega⟩
theorem jumps_any (op : Int) (w : World) : Calls Try.prog 53 #[.int .i64 op] w fun e w' => e = .returned (.bool (jumpsB op)) /\ w = w' := by
  by_cases h : op = 2 \/ op = 3 \/ op = 4 \/ op = 5 \/ op = 9 \/ op = 10
  · have HJ : Hid (jumpsB op = true) := decide_eq_true h
    rw [HJ.out]
    clear HJ
    rcases h with rfl | rfl | rfl | rfl | rfl | rfl
    all_goals
      go_enter Try.func53, Try.ntmps53
      go_wp2
      go_ret
      exact ⟨rfl, rfl⟩
  · have HJ : Hid (jumpsB op = false) := decide_eq_false h
    rw [HJ.out]
    clear HJ
    have h2 : (op == 2) = false := by rw [beq_eq_false_iff_ne]; omega
    have h3 : (op == 3) = false := by rw [beq_eq_false_iff_ne]; omega
    have h4 : (op == 4) = false := by rw [beq_eq_false_iff_ne]; omega
    have h5 : (op == 5) = false := by rw [beq_eq_false_iff_ne]; omega
    have h9 : (op == 9) = false := by rw [beq_eq_false_iff_ne]; omega
    have h10 : (op == 10) = false := by rw [beq_eq_false_iff_ne]; omega
    clear h
    go_enter Try.func53, Try.ntmps53
    go_wp2
    go_ret
    exact ⟨rfl, rfl⟩
def inCells (l : List In) : List Value := l.flatMap fun x => [.int .i64 x.op, .int .i64 x.n, .int .u64 (x.a : Int), .int .u64 (x.b : Int), .int .u64 (x.c : Int), .int .u64 (x.d : Int)]
theorem inCells_len : ∀ l : List In, (inCells l).length = l.length * 6
  | [] => rfl
  | v :: l => by
    have := inCells_len l
    unfold inCells at this ⊢
    rw [List.flatMap_cons, List.length_append, this]
    simp; omega
theorem inCells_get : ∀ (l : List In) (j : Nat) (x : In), l[j]? = some x -> ∀ i u, [Value.int .i64 x.op, .int .i64 x.n, .int .u64 (x.a : Int), .int .u64 (x.b : Int), .int .u64 (x.c : Int), .int .u64 (x.d : Int)][i]? = some u -> (inCells l)[j * 6 + i]? = some u
  | [], j, v, h => by simp at h
  | x :: l, 0, v, h => fun i u hu => by
    simp at h
    subst h
    unfold inCells
    rw [List.flatMap_cons, Nat.zero_mul, Nat.zero_add, List.getElem?_append_left (getElem?_lt hu)]
    exact hu
  | x :: l, j + 1, v, h => fun i u hu => by
    have ih := inCells_get l j v (by simpa using h) i u hu
    unfold inCells at ih ⊢
    rw [List.flatMap_cons, List.getElem?_append_right (by simp; omega)]
    simp only [List.length_cons, List.length_nil]
    rw [show (j + 1) * 6 + i - (0 + 1 + 1 + 1 + 1 + 1 + 1) = j * 6 + i from by omega]
    exact ih
theorem Reads.in_len {w : World} {B n : Nat} {A : Option Addr} {l : List In} (h : Reads w B 6 A n (inCells l)) : l.length = n := by
  have := h.len
  rw [inCells_len] at this
  omega
theorem Reads.in_at {w : World} {B n j : Nat} {A : Option Addr} {l : List In} (h : Reads w B 6 A n (inCells l)) (hj : j < n) :
    ∃ ad x, A = some ad /\ (ad.add (j * 6)).block < B /\ l[j]? = some x /\ w.cell? (ad.add (j * 6)) = some (.int .i64 x.op) /\
      w.cell? ⟨(ad.add (j * 6)).block, (ad.add (j * 6)).off + 1, none⟩ = some (.int .i64 x.n) /\ w.cell? ⟨(ad.add (j * 6)).block, (ad.add (j * 6)).off + 2, none⟩ = some (.int .u64 (x.a : Int)) /\
      w.cell? ⟨(ad.add (j * 6)).block, (ad.add (j * 6)).off + 3, none⟩ = some (.int .u64 (x.b : Int)) /\ w.cell? ⟨(ad.add (j * 6)).block, (ad.add (j * 6)).off + 4, none⟩ = some (.int .u64 (x.c : Int)) /\
      w.cell? ⟨(ad.add (j * 6)).block, (ad.add (j * 6)).off + 5, none⟩ = some (.int .u64 (x.d : Int)) := by
  obtain ⟨ad, rfl, hb, hc⟩ := h.lies (by omega)
  have hl := h.in_len
  have hx : l[j]? = some l[j] := List.getElem?_eq_getElem (by omega)
  have key : ∀ i u, [Value.int .i64 l[j].op, .int .i64 l[j].n, .int .u64 (l[j].a : Int), .int .u64 (l[j].b : Int), .int .u64 (l[j].c : Int), .int .u64 (l[j].d : Int)][i]? = some u -> w.cell? ((ad.add (j * 6)).add i) = some u := fun i u hu => by
    rw [add_add']
    exact hc _ u (inCells_get l j _ hx i u hu)
  refine ⟨ad, l[j], rfl, by rw [add_block]; exact hb, hx, ?_, ?_, ?_, ?_, ?_, ?_⟩
  · exact key 0 _ rfl
  · exact key 1 _ rfl
  · exact key 2 _ rfl
  · exact key 3 _ rfl
  · exact key 4 _ rfl
  · exact key 5 _ rfl
end Go.Proofs.Ytkmcnekjimobhaa
