/- Words of memory for this seat's proofs: a run of cells that can be read, a block that is known whole, ints, and what a world keeps. What strings.IndexByte, walk.Alpha, walk.shorter and walk.Over answer. What walk.shorter and walk.Over answer. Rows of bytes: what []byte(s) lays, and a block whose frozen mark lies behind its cells. What quote.one answers. What quote.next answers. How many bits a word has: plain. A set's words, and what set.Has answers. What is in a set, the first that is, and how many: plain. What the functions of package set that go word by word answer. What set.Join and set.Meet answer. -/
import Derived.WalkKit
import Derived.LoopTactic
import Derived.Below
import Derived.Laws.OwnMore
import Derived.Deep.AppendLies
import Derived.Deep.Draws
import Derived.Laws.Rows
import Derived.Maps.AppendAt
import Derived.RegionTactic
import Derived.OwnWalk
import Derived.Lib.Hide
import Derived.Test.YtndhbdbfjkmloaaDoorProg
import Derived.BigQuiet
import Derived.Deep.QuietTactic
import Derived.Lib.Bytealg
import Derived.Lib.IndexLaws
import Derived.Laws.IdiomStrings
import Derived.Test.YtndhbdbfjkmloaaDoorRows
import Derived.Laws.Bits128
import Derived.Lib.TrailingZeros
import Derived.Deep.RegionHeld3
import Derived.Deep.RegionWith
namespace Go.Proofs.YtndhbdbfjkmloaaDoor
open Go.RowKit


theorem add_block (a : Addr) (n : Nat) : (a.add n).block = a.block := by
  cases n with
  | zero => rfl
  | succ n => rfl
theorem add_add' (a : Addr) (i j : Nat) : (a.add i).add j = a.add (i + j) := by
  cases i with
  | zero => rw [Nat.zero_add]; rfl
  | succ i => cases j with
    | zero => rfl
    | succ j => simp [Addr.add]; omega

/-- a run of n elements of 'size' cells each begins at A, lies below block B, and holds the cells xs (where n is 0, of A nothing is said) -/
structure Reads (w : World) (B size : Nat) (A : Option Addr) (n : Nat) (xs : List Value) : Prop where
  len : xs.length = n * size
  lies : 0 < n → ∃ ad : Addr, A = some ad ∧ ad.block < B ∧ ∀ j u, xs[j]? = some u → w.cell? (ad.add j) = some u

section
variable {w w' : World} {B B' size n : Nat} {A : Option Addr} {xs : List Value}
theorem Reads.at_ {k : Nat} (h : Reads w B 1 A n xs) (hk : k < n) : ∃ ad u, A = some ad ∧ ad.block < B ∧ xs[k]? = some u ∧ w.cell? (ad.add k) = some u := by
  obtain ⟨ad, rfl, hb, hc⟩ := h.lies (by omega)
  have hx := List.getElem?_eq_getElem (l := xs) (i := k) (by have := h.len; omega)
  exact ⟨ad, _, rfl, hb, hx, hc k _ hx⟩
/-- in another world that has the same cells below B -/
theorem Reads.keep (h : Reads w B size A n xs) (hk : ∀ p : Addr, p.block < B → w'.cell? p = w.cell? p) : Reads w' B size A n xs where
  len := h.len
  lies hn := by
    obtain ⟨ad, e, hb, hc⟩ := h.lies hn
    refine ⟨ad, e, hb, fun j u hu => ?_⟩
    rw [hk _ (by rwa [add_block])]
    exact hc j u hu
theorem Reads.more (h : Reads w B size A n xs) (hB : B ≤ B') : Reads w B' size A n xs where
  len := h.len
  lies hn := by
    obtain ⟨ad, e, hb, hc⟩ := h.lies hn
    exact ⟨ad, e, Nat.lt_of_lt_of_le hb hB, hc⟩
theorem Reads.below (h : Reads w B size A n xs) (hb : Below B w w') : Reads w' B size A n xs := h.keep fun _ => hb.cell
theorem Reads.drewN (h : Reads w B size A n xs) (k : Nat) : Reads (w.drewN k) B size A n xs := ⟨h.len, h.lies⟩
theorem Reads.drew (h : Reads w B size A n xs) : Reads w.drew B size A n xs := ⟨h.len, h.lies⟩
theorem Reads.alloc (h : Reads w B size A n xs) (hB : B ≤ w.heap.size) (o : Obj) : Reads (w.alloc o) B size A n xs :=
  h.keep fun p hp => World.cell?_alloc_lt w o p (Nat.lt_of_lt_of_le hp hB)
theorem Reads.setCell (h : Reads w B size A n xs) {p : Addr} (hB : B ≤ p.block) (u : Value) : Reads (w.setCell p u) B size A n xs :=
  h.keep fun q hq => World.cell?_setCell_other w p q u (by rintro rfl; omega)
theorem Reads.grown (h : Reads w B size A n xs) {row : Option Nat} (hg : w.grownBy w' row) (hB : B ≤ w.heap.size) (hr : ∀ g, row = some g → B ≤ g) : Reads w' B size A n xs :=
  h.keep fun p hp => World.cell?_of_block (hg.block p.block (by omega) fun e => by have := hr p.block e.symm; omega)
end

/-- block g is just these cells, none of them frozen -/
def Blk (w : World) (g : Nat) (t : TypeId) (cs : Array Value) : Prop := w.heap[g]? = some (.cells cs t (0, 0))

section
variable {w w' : World} {g : Nat} {t : TypeId} {cs : Array Value}
theorem Blk.lt (h : Blk w g t cs) : g < w.heap.size := (Array.getElem?_eq_some_iff.1 h).1
theorem Blk.cell (h : Blk w g t cs) (i : Nat) : w.cell? ⟨g, i, none⟩ = cs[i]? := cell_of_row w g i cs t (0, 0) h
theorem Blk.frozen (h : Blk w g t cs) (i : Nat) : w.frozen? ⟨g, i, none⟩ = false := by
  have h' : w.heap[g]? = some (.cells cs t (0, 0)) := h
  simp [World.frozen?, h']
theorem Blk.new (w : World) (t : TypeId) (cs : Array Value) : Blk (w.alloc (.cells cs t)) w.heap.size t cs := heap_alloc_new w _
theorem Blk.drewN (h : Blk w g t cs) (n : Nat) : Blk (w.drewN n) g t cs := h
theorem Blk.drew (h : Blk w g t cs) : Blk w.drew g t cs := h
theorem Blk.alloc (h : Blk w g t cs) (o : Obj) : Blk (w.alloc o) g t cs := (Below.heap_alloc w o g h.lt).trans h
theorem Blk.set_ (h : Blk w g t cs) (i : Nat) (u : Value) : Blk (w.setCell ⟨g, i, none⟩ u) g t (cs.setIfInBounds i u) := by
  have h' : w.heap[g]? = some (.cells cs t (0, 0)) := h
  show (w.setCell ⟨g, i, none⟩ u).heap[g]? = _
  simp [World.setCell, Array.getElem?_modify, h']
theorem Blk.far (h : Blk w g t cs) {p : Addr} (hp : g ≠ p.block) (u : Value) : Blk (w.setCell p u) g t cs := (Below.heap_setCell w p u g hp).trans h
theorem Blk.below {B : Nat} (h : Blk w g t cs) (hb : Below B w w') (hg : g < B) : Blk w' g t cs := (hb.block g hg).trans h
theorem Blk.grown {row : Option Nat} (h : Blk w g t cs) (hb : w.grownBy w' row) (hg : some g ≠ row) : Blk w' g t cs := (hb.block g h.lt hg).trans h
end

/-- a Go int -/
def I64 (z : Int) : Prop := -9223372036854775808 ≤ z ∧ z ≤ 9223372036854775807
theorem below_drewN {B : Nat} {a w : World} (h : Below B a w) (n : Nat) : Below B a (w.drewN n) := ⟨h.os, h.tape, h.output, h.size, h.block⟩
/-- the append's own row does not lie below the base -/
theorem below_app {B : Nat} {a w w' : World} {v : Value} {base n size : Nat} {e : TypeId} {xs : List Value} (h : Below B a w) (hown : w.ownsRow base e size v n xs) (hg : w.grownBy w' v.ownBlock) (hB : B ≤ w.heap.size) (hbase : B ≤ base) : Below B a w' :=
  h.grown hg hB fun k hk => by have := hown.lt k hk; omega
theorem grown_of_below {w w' : World} (h : Below w.heap.size w w') (row : Option Nat) : w.grownBy w' row := ⟨h.os, h.tape, h.output, h.size, fun k hk _ => h.block k hk⟩
theorem own_below {w w' : World} {base : Nat} {e : TypeId} {size : Nat} {v : Value} {n : Nat} {xs : List Value} (h : w.ownsRow base e size v n xs) (hb : Below w.heap.size w w') : w'.ownsRow base e size v n xs :=
  h.kept (grown_of_below hb none) (by cases h' : v.ownBlock <;> simp)
theorem own_far {w w' : World} {base : Nat} {e : TypeId} {size : Nat} {v : Value} {n : Nat} {xs : List Value} (h : w.ownsRow base e size v n xs) {g : Nat} (hg : w.grownBy w' (some g)) (hlt : g < base) : w'.ownsRow base e size v n xs :=
  h.kept hg (.inr fun e => by have := h.lt g e; omega)
theorem getElem?_lt {α : Type} {l : List α} {k : Nat} {x : α} (h : l[k]? = some x) : k < l.length := (List.getElem?_eq_some_iff.1 h).1
theorem take_succ_of {α : Type} {l : List α} {k : Nat} {x : α} (h : l[k]? = some x) : l.take (k + 1) = l.take k ++ [x] := by
  rw [List.take_add_one, h]; rfl
theorem ret_bool {a b : Bool} (h : a = b) : Ending.returned (.bool a) = .returned (.bool b) := by rw [h]
theorem blk_at {w : World} {g : Nat} {t : TypeId} {cs : Array Value} (h : g = w.heap.size) : Blk (w.alloc (.cells cs t)) g t cs := by rw [h]; exact Blk.new w t cs
theorem Reads.on {w w' : World} {size n C : Nat} {A : Option Addr} {xs : List Value} (h : Reads w w.heap.size size A n xs) (hb : Below C w w') (hC : w.heap.size ≤ C) : Reads w' w'.heap.size size A n xs := (h.below (hb.mono hC)).more hb.size
end Go.Proofs.YtndhbdbfjkmloaaDoor
namespace Go.Proofs.YtndhbdbfjkmloaaDoor
open Go.RowKit

set_option maxRecDepth 100000 in
theorem indexByte_lite (s : ByteArray) (c : Int) (w : World) :
    Calls Tryd.prog 122 #[.string s, .int .u8 c] w fun e w' => e = .returned (.int .i64 (Lib.indexByte s.data.toList c.toNat.toUInt8)) ∧ w = w' := by
  go_enter Tryd.func122, Tryd.ntmps122
  go_wp2
  rw [run_callFunc_extern Tryd.func141 (by kernel_rfl) (by kernel_rfl) (by kernel_rfl) (e := Extern.BytealgIndexByte.indexByte) (by kernel_rfl), Lib.run_indexByteString]
  simp only [Result.andThen]
  rw [Oper.upon_value]
  go_wp2
  go_ret
  exact ⟨rfl, rfl⟩
set_option maxRecDepth 100000 in
theorem indexByte_any (s : ByteArray) (c : Int) (w : World) :
    Calls Tryd.prog 99 #[.string s, .int .u8 c] w fun e w' => e = .returned (.int .i64 (Lib.indexByte s.data.toList c.toNat.toUInt8)) ∧ w = w' := by
  go_enter Tryd.func99, Tryd.ntmps99
  go_wp2_with (go_at_call 122; refine (indexByte_lite _ _ _).mono ?_; rintro e w' ⟨rfl, rfl⟩)
  go_ret
  exact ⟨rfl, rfl⟩

/-- the byte at place k, as a number -/
def bt (l : List UInt8) (k : Nat) : Nat := (l.getD k 0).toNat
theorem bt_of {s : ByteArray} {k : Nat} (h : k < s.size) : s[k].toNat = bt s.data.toList k := by
  have h' : k < s.data.toList.length := by simpa using h
  unfold bt
  rw [List.getD_eq_getElem?_getD, List.getElem?_eq_getElem h']
  rfl
theorem bt_lt (l : List UInt8) (k : Nat) : bt l k < 256 := (l.getD k 0).toNat_lt

theorem size_list (s : ByteArray) : s.data.toList.length = s.size := by simp

theorem get_byte {s : ByteArray} {k : Nat} (h : k < s.size) : s.data.toList[k]? = some s[k] := by rw [List.getElem?_eq_getElem (by rw [size_list]; exact h)]; rfl

end Go.Proofs.YtndhbdbfjkmloaaDoor
namespace Go.Proofs.YtndhbdbfjkmloaaDoor
open Go.RowKit

theorem index_mem {l : List UInt8} {c : UInt8} : 0 ≤ Lib.indexByte l c ↔ c ∈ l := by
  induction l with
  | nil => simp [Lib.indexByte]
  | cons b l ih =>
    unfold Lib.indexByte
    have hg := Lib.indexByte_ge l c
    by_cases hbc : b = c
    · subst hbc; simp
    · have hbc' : (b == c) = false := by simpa using hbc
      rw [hbc', if_neg (by decide)]
      split
      · rename_i h1
        have h1' : Lib.indexByte l c = -1 := by simpa using h1
        have h2 : ¬ c ∈ l := fun h => by have := ih.2 h; omega
        simp [h2, Ne.symm hbc]
      · rename_i h1
        have h1' : ¬ Lib.indexByte l c = -1 := by simpa using h1
        have h2 : c ∈ l := ih.1 (by omega)
        simp [h2]; omega
end Go.Proofs.YtndhbdbfjkmloaaDoor
namespace Go.Proofs.YtndhbdbfjkmloaaDoor
open Go.RowKit

/-- block g is just these cells, none of them frozen (a mark may lie behind them) -/
def BlkZ (w : World) (g : Nat) (t : TypeId) (cs : Array Value) : Prop := ∃ lo hi, w.heap[g]? = some (.cells cs t (lo, hi)) ∧ (cs.size ≤ lo ∨ hi ≤ lo)
section
variable {w w' : World} {g : Nat} {t : TypeId} {cs : Array Value}
theorem BlkZ.of (h : Blk w g t cs) : BlkZ w g t cs := ⟨0, 0, h, .inr (Nat.le_refl _)⟩
theorem BlkZ.lt (h : BlkZ w g t cs) : g < w.heap.size := by
  obtain ⟨lo, hi, h, _⟩ := h
  exact (Array.getElem?_eq_some_iff.1 h).1
theorem BlkZ.cell (h : BlkZ w g t cs) (i : Nat) : w.cell? ⟨g, i, none⟩ = cs[i]? := by
  obtain ⟨lo, hi, h, _⟩ := h
  exact cell_of_row w g i cs t (lo, hi) h
theorem BlkZ.frozen (h : BlkZ w g t cs) {i : Nat} (hi : i < cs.size) : w.frozen? ⟨g, i, none⟩ = false := by
  obtain ⟨lo, hi', h, h'⟩ := h
  simp only [World.frozen?, h]
  rcases h' with h' | h'
  · have : ¬ lo ≤ i := by omega
    simp [this]
  · by_cases hlo : lo ≤ i
    · have : ¬ i < hi' := by omega
      simp [this]
    · simp [hlo]
theorem BlkZ.drewN (h : BlkZ w g t cs) (n : Nat) : BlkZ (w.drewN n) g t cs := h
theorem BlkZ.drew (h : BlkZ w g t cs) : BlkZ w.drew g t cs := h
theorem BlkZ.below {B : Nat} (h : BlkZ w g t cs) (hb : Below B w w') (hg : g < B) : BlkZ w' g t cs := by
  obtain ⟨lo, hi, h, h'⟩ := h
  exact ⟨lo, hi, (hb.block g hg).trans h, h'⟩
theorem BlkZ.alloc (h : BlkZ w g t cs) (o : Obj) : BlkZ (w.alloc o) g t cs := by
  have hlt := h.lt
  obtain ⟨lo, hi, h, h'⟩ := h
  exact ⟨lo, hi, (Below.heap_alloc w o g hlt).trans h, h'⟩
theorem BlkZ.set_ (h : BlkZ w g t cs) (i : Nat) (u : Value) : BlkZ (w.setCell ⟨g, i, none⟩ u) g t (cs.setIfInBounds i u) := by
  obtain ⟨lo, hi, h, h'⟩ := h
  refine ⟨lo, hi, ?_, by simpa using h'⟩
  simp [World.setCell, Array.getElem?_modify, h]
theorem BlkZ.far (h : BlkZ w g t cs) {p : Addr} (hp : g ≠ p.block) (u : Value) : BlkZ (w.setCell p u) g t cs := by
  obtain ⟨lo, hi, h, h'⟩ := h
  exact ⟨lo, hi, (Below.heap_setCell w p u g hp).trans h, h'⟩
end

/-- cells of bytes -/
def u8s (l : List UInt8) : List Value := l.map fun b => Value.int .u8 b.toNat
theorem u8s_length (l : List UInt8) : (u8s l).length = l.length := by simp [u8s]
theorem u8s_append (a b : List UInt8) : u8s (a ++ b) = u8s a ++ u8s b := by simp [u8s]
theorem u8s_get {l : List UInt8} {i : Nat} {b : UInt8} (h : l[i]? = some b) : (u8s l)[i]? = some (.int .u8 b.toNat) := by simp [u8s, h]
/-- string(b) of bytes that are known -/
theorem string_of {P : Program} {w : World} {src dst e : TypeId} {g n c : Nat} {cs : Array Value} {t : TypeId} {l : List UInt8} (hs : P.underlying src = some (.slice e)) (he : P.underlying e = some (.int .u8)) (hd : P.underlying dst = some .string)
    (h : BlkZ w g t cs) (hl : l.length = n) (ht : cs.toList.take n = u8s l) : (convert src dst (.slice (some ⟨g, 0, none⟩) n c)).run P w = .ok (.string ⟨l.toArray⟩) w := by
  subst hl
  refine run_convert_bytes_back w src dst e ⟨g, 0, none⟩ c l hs he hd fun j hj => ?_
  have hadd : (⟨g, 0, none⟩ : Addr).add j = ⟨g, j, none⟩ := by unfold Addr.add; split <;> simp_all
  rw [hadd, h.cell j, ← Array.getElem?_toList]
  have h1 : (cs.toList.take l.length)[j]? = (u8s l)[j]? := by rw [ht]
  rw [List.getElem?_take, if_pos hj] at h1
  rw [h1, u8s_get (List.getElem?_eq_getElem hj)]
end Go.Proofs.YtndhbdbfjkmloaaDoor
namespace Go.Proofs.YtndhbdbfjkmloaaDoor
open Go.RowKit

def hexs : ByteArray := ⟨#[48, 49, 50, 51, 52, 53, 54, 55, 56, 57, 97, 98, 99, 100, 101, 102]⟩
theorem slice_str (s : ByteArray) (k k' : IntKind) (q r : Nat) (i j : Int) (hi : i = q) (hj : j = r) (h1 : q ≤ r) (h2 : r ≤ s.size) (w : World) :
    (Instr.slice 9 (.string s) (some (.int k i)) (some (.int k' j)) none).run Tryd.prog w = .ok (.string (s.extract q r)) w := by
  subst hi hj
  have hu := Tryd.underlying9
  simp [Instr.slice, run_underlying hu, Instr.sliceBounds, go_sem, h1, h2]

def signs (cls : Bool) : ByteArray := if cls then ⟨#[91, 93, 45, 94, 92]⟩ else ⟨#[39, 92]⟩
def hexd (n : Nat) : UInt8 := hexs.data.toList.getD n 0
/-- a byte as text -/
def enc (cls : Bool) (n : Nat) : List UInt8 :=
  if n = 10 then [92, 110] else if n = 9 then [92, 116] else if n < 32 ∨ (n = 32 ∧ cls = true) ∨ 127 ≤ n then [92, 120, hexd (n / 16), hexd (n % 16)]
  else if UInt8.ofNat n ∈ (signs cls).data.toList then [92, UInt8.ofNat n] else [UInt8.ofNat n]

theorem and15 (n : Nat) (h : n < 256) : bits .and .u8 (n : Int) 15 = ((n % 16 : Nat) : Int) := by
  have h' : ∀ b : Fin 256, bits .and .u8 ((b : Nat) : Int) 15 = (((b : Nat) % 16 : Nat) : Int) := by decide +kernel
  exact h' ⟨n, h⟩

set_option maxRecDepth 100000 in
theorem one_any (cls : Bool) (n : Nat) (hn : n < 256) (w : World) :
    Calls Tryd.prog 73 #[.int .u8 n, .string (signs cls)] w fun e w' => e = .returned (.string ⟨(enc cls n).toArray⟩) ∧ Below w.heap.size w w' := by
  by_cases h10 : n = 10
  · subst h10
    go_enter Tryd.func73, Tryd.ntmps73
    go_wp2
    go_ret
    exact ⟨rfl, Below.refl _ _⟩
  by_cases h9 : n = 9
  · subst h9
    go_enter Tryd.func73, Tryd.ntmps73
    go_wp2
    go_ret
    exact ⟨rfl, Below.refl _ _⟩
  have b10 : ((n : Int) == 10) = false := by rw [beq_eq_false_iff_ne]; omega
  have b9 : ((n : Int) == 9) = false := by rw [beq_eq_false_iff_ne]; omega
  obtain ⟨q, r, hq, hr, hq16, hr16, hqn, hrn⟩ : ∃ q r : Nat, (n : Int) / 16 = q ∧ bits .and .u8 (n : Int) 15 = r ∧ q < 16 ∧ r < 16 ∧ q = n / 16 ∧ r = n % 16 :=
    ⟨n / 16, n % 16, by omega, and15 n hn, by omega, by omega, rfl, rfl⟩
  by_cases hx : n < 32 ∨ (n = 32 ∧ cls = true) ∨ 127 ≤ n
  · have hfin : (⟨#[92, 120]⟩ : ByteArray) ++ hexs.extract q (q + 1) ++ hexs.extract r (r + 1) = ⟨(enc cls n).toArray⟩ := by
      have h1 : enc cls n = [92, 120, hexd q, hexd r] := by unfold enc; rw [if_neg h10, if_neg h9, if_pos hx, hqn, hrn]
      rw [h1]
      have h2 : ∀ q r : Fin 16, (⟨#[92, 120]⟩ : ByteArray) ++ hexs.extract q.val (q.val + 1) ++ hexs.extract r.val (r.val + 1) = ⟨[92, 120, hexd q.val, hexd r.val].toArray⟩ := by decide +kernel
      exact h2 ⟨q, hq16⟩ ⟨r, hr16⟩
    have HFIN := Lib.hid hfin
    have h10' := Lib.hid h10
    have h9' := Lib.hid h9
    clear hfin hqn hrn h10 h9
    have w1 : IntKind.u8.wrap ((q : Int) + 1) = (q : Int) + 1 := by rw [IntKind.wrap_u8']; omega
    have w2 : IntKind.u8.wrap ((r : Int) + 1) = (r : Int) + 1 := by rw [IntKind.wrap_u8']; omega
    have s1 := slice_str (⟨#[48, 49, 50, 51, 52, 53, 54, 55, 56, 57, 97, 98, 99, 100, 101, 102]⟩ : ByteArray) .u8 .u8 q (q + 1) (q : Int) ((q : Int) + 1) rfl (by omega) (by omega) (by show q + 1 ≤ 16; omega)
    have s2 := slice_str (⟨#[48, 49, 50, 51, 52, 53, 54, 55, 56, 57, 97, 98, 99, 100, 101, 102]⟩ : ByteArray) .u8 .u8 r (r + 1) (r : Int) ((r : Int) + 1) rfl (by omega) (by omega) (by show r + 1 ≤ 16; omega)
    have q0 : (0 : Int) ≤ (q : Int) := by omega
    have r0 : (0 : Int) ≤ (r : Int) := by omega
    have q1 : (q : Int) + 1 ≤ 16 := by omega
    have r1 : (r : Int) + 1 ≤ 16 := by omega
    rcases (show n < 32 ∨ (n = 32 ∧ cls = true) ∨ 127 ≤ n from hx) with h | ⟨rfl, rfl⟩ | h
    · have hne : ((n : Int) != 32) = true := by rw [bne_iff_ne]; omega
      clear hx
      go_enter Tryd.func73, Tryd.ntmps73
      go_wp2
      go_quiet (fail)
      go_wp2
      go_ret
      exact ⟨congrArg (fun x => Ending.returned (.string x)) HFIN.out, below_drewN (Below.refl _ _) _⟩
    · clear hx
      have es : signs true = ⟨#[91, 93, 45, 94, 92]⟩ := rfl
      have hsg : ((⟨#[91, 93, 45, 94, 92]⟩ : ByteArray).toList == (⟨#[39, 92]⟩ : ByteArray).toList) = false := by decide +kernel
      have hsg' : ((⟨#[91, 93, 45, 94, 92]⟩ : ByteArray).toList != (⟨#[39, 92]⟩ : ByteArray).toList) = true := by decide +kernel
      rw [es]
      clear es
      go_enter Tryd.func73, Tryd.ntmps73
      go_wp2
      go_quiet (fail)
      go_wp2
      go_ret
      exact ⟨congrArg (fun x => Ending.returned (.string x)) (by decide +kernel), below_drewN (Below.refl _ _) _⟩
    · clear hx
      have hne : ((n : Int) != 32) = true := by rw [bne_iff_ne]; omega
      go_enter Tryd.func73, Tryd.ntmps73
      go_wp2
      go_quiet (fail)
      go_wp2
      go_ret
      exact ⟨congrArg (fun x => Ending.returned (.string x)) HFIN.out, below_drewN (Below.refl _ _) _⟩
  · have hm := index_mem (l := (signs cls).data.toList) (c := UInt8.ofNat n)
    have hfin : enc cls n = if UInt8.ofNat n ∈ (signs cls).data.toList then [92, UInt8.ofNat n] else [UInt8.ofNat n] := by
      unfold enc; rw [if_neg h10, if_neg h9, if_neg hx]
    have hnt : (UInt8.ofNat n).toNat = n := by simp; omega
    have hconv : (convert 158 9 (.slice (some ⟨w.heap.size, 0, none⟩) 1 1)).run Tryd.prog (w.alloc (.cells #[.int .u8 (n : Int)] 5)) = .ok (.string ⟨#[UInt8.ofNat n]⟩) (w.alloc (.cells #[.int .u8 (n : Int)] 5)) :=
      string_of (l := [UInt8.ofNat n]) Tryd.underlying158 Tryd.underlying5 Tryd.underlying9 (BlkZ.of (blk_at rfl)) rfl (by simp [u8s, hnt])
    have hto : ((n : Int)).toNat.toUInt8 = UInt8.ofNat n := by simp
    have HM := Lib.hid hm
    have HFIN := Lib.hid hfin
    have HTO := Lib.hid hto
    have hcases : (n = 32 ∧ cls = false) ∨ (32 < n ∧ n < 127) := by
      cases cls <;> simp at hx ⊢ <;> omega
    clear hm hfin hq hr hq16 hr16 hqn hrn hnt hto h10 h9 hx
    rcases hcases with ⟨rfl, rfl⟩ | ⟨hlo, hhi⟩
    · have es : signs false = ⟨#[39, 92]⟩ := rfl
      rw [es]
      clear es
      have hsg : ((⟨#[39, 92]⟩ : ByteArray).toList == (⟨#[39, 92]⟩ : ByteArray).toList) = true := by decide +kernel
      have hsg' : ((⟨#[39, 92]⟩ : ByteArray).toList != (⟨#[39, 92]⟩ : ByteArray).toList) = false := by decide +kernel
      have hix : Lib.indexByte (⟨#[39, 92]⟩ : ByteArray).data.toList ((32 : Int).toNat.toUInt8) = -1 := by decide +kernel
      have HIX := Lib.hid hix
      have hconv' : (convert 158 9 (.slice (some ⟨w.heap.size, 0, none⟩) 1 1)).run Tryd.prog (w.alloc (.cells #[.int .u8 32] 5)) = .ok (.string ⟨#[32]⟩) (w.alloc (.cells #[.int .u8 32] 5)) := hconv
      clear hix hconv
      go_enter Tryd.func73, Tryd.ntmps73
      go_wp2_with (go_at_call 99; refine (indexByte_any _ 32 _).mono ?_; rw [HIX.out]; rintro e w' ⟨rfl, rfl⟩)
      go_ret
      exact ⟨rfl, (by repeat (first | exact Below.refl _ _ | assumption | refine Below.drew ?_ | refine below_drewN ?_ _ | refine Below.alloc ?_ (by first | omega | (simp; omega) | simp) _ | refine Below.setCell ?_ (by first | omega | (simp; omega) | simp) _))⟩
    · have hn32 : ¬ n ≤ 32 := by omega
      by_cases hin : UInt8.ofNat n ∈ (signs cls).data.toList
      · have hge : 0 ≤ Lib.indexByte (signs cls).data.toList (UInt8.ofNat n) := HM.out.2 hin
        have hf : Hid (enc cls n = [92, UInt8.ofNat n]) := by show _ = _; rw [HFIN.out, if_pos hin]
        clear hin
        go_enter Tryd.func73, Tryd.ntmps73
        go_wp2_with (go_at_call 99; refine (indexByte_any _ _ _).mono ?_; rw [HTO.out]; rintro e w' ⟨rfl, rfl⟩)
        go_ret
        exact ⟨by rw [hf.out]; rfl, (by repeat (first | exact Below.refl _ _ | assumption | refine Below.drew ?_ | refine below_drewN ?_ _ | refine Below.alloc ?_ (by first | omega | (simp; omega) | simp) _ | refine Below.setCell ?_ (by first | omega | (simp; omega) | simp) _))⟩
      · have hlt : ¬ 0 ≤ Lib.indexByte (signs cls).data.toList (UInt8.ofNat n) := fun h => hin (HM.out.1 h)
        have hf : Hid (enc cls n = [UInt8.ofNat n]) := by show _ = _; rw [HFIN.out, if_neg hin]
        clear hin
        go_enter Tryd.func73, Tryd.ntmps73
        go_wp2_with (go_at_call 99; refine (indexByte_any _ _ _).mono ?_; rw [HTO.out]; rintro e w' ⟨rfl, rfl⟩)
        go_ret
        exact ⟨by rw [hf.out]; rfl, (by repeat (first | exact Below.refl _ _ | assumption | refine Below.drew ?_ | refine below_drewN ?_ _ | refine Below.alloc ?_ (by first | omega | (simp; omega) | simp) _ | refine Below.setCell ?_ (by first | omega | (simp; omega) | simp) _))⟩
end Go.Proofs.YtndhbdbfjkmloaaDoor
namespace Go.Proofs.YtndhbdbfjkmloaaDoor
open Go.RowKit

def hexI (n : Nat) : Int := Lib.indexByte hexs.data.toList (UInt8.ofNat n)
/-- the next byte of a text that is not at its end, and how many bytes say it -/
def nextN (sg l : List UInt8) : Nat × Nat :=
  if bt l 0 ≠ 92 then (if bt l 0 = 10 then (0, 0) else (bt l 0, 1))
  else if l.length < 2 then (0, 0)
  else if bt l 1 = 110 then (10, 2)
  else if bt l 1 = 116 then (9, 2)
  else if UInt8.ofNat (bt l 1) ∈ sg then (bt l 1, 2)
  else if bt l 1 = 120 ∧ 4 ≤ l.length then
    (if 0 ≤ hexI (bt l 2) ∧ 0 ≤ hexI (bt l 3) then ((hexI (bt l 2) * 16 + hexI (bt l 3)).toNat, 4) else (0, 0))
  else (0, 0)

theorem hexI_bd (n : Nat) : -1 ≤ hexI n ∧ hexI n < 16 := by
  refine ⟨Lib.indexByte_ge _ _, ?_⟩
  unfold hexI
  rcases Int.lt_or_le (Lib.indexByte hexs.data.toList (UInt8.ofNat n)) 0 with h | h
  · omega
  · have hm := index_mem.1 h
    obtain ⟨k, hk⟩ : ∃ k : Nat, Lib.indexByte hexs.data.toList (UInt8.ofNat n) = k := ⟨_, (Int.toNat_of_nonneg h).symm⟩
    have := getElem?_lt (Lib.indexByte_some hk).1
    rw [hk]
    have hl : hexs.data.toList.length = 16 := rfl
    omega

theorem shl_or (a b : Int) (ha : 0 ≤ a ∧ a < 16) (hb : 0 ≤ b ∧ b < 16) : bits .or .i64 (a * 16) b = a * 16 + b := by
  obtain ⟨n, rfl⟩ := Int.eq_ofNat_of_zero_le ha.1
  obtain ⟨m, rfl⟩ := Int.eq_ofNat_of_zero_le hb.1
  have h : ∀ n m : Fin 16, bits .or .i64 (((n : Nat) : Int) * 16) ((m : Nat) : Int) = ((n : Nat) : Int) * 16 + ((m : Nat) : Int) := by decide +kernel
  exact h ⟨n, by omega⟩ ⟨m, by omega⟩

/-- what quote.next leaves -/
def NextQ (sg l : List UInt8) (w : World) (e : Ending) (w' : World) : Prop :=
  e = .returned (.tuple #[.int .u8 (nextN sg l).1, .int .i64 (nextN sg l).2]) ∧ ∃ d, w' = w.drewN d

theorem nextQ_of {sg l : List UInt8} {w w' : World} {x y : Nat} (h : nextN sg l = (x, y)) (hd : ∃ d, w' = w.drewN d) : NextQ sg l w (.returned (.tuple #[.int .u8 x, .int .i64 y])) w' := ⟨by rw [h], hd⟩

theorem hex_any (c : Nat) (w : World) : Calls Tryd.prog 99 #[.string ⟨#[48, 49, 50, 51, 52, 53, 54, 55, 56, 57, 97, 98, 99, 100, 101, 102]⟩, .int .u8 c] w fun e w' => e = .returned (.int .i64 (hexI c)) ∧ w' = w :=
  (indexByte_any _ _ w).mono fun e w' ⟨h1, h2⟩ => ⟨by rw [h1]; unfold hexI hexs; simp, h2.symm⟩

set_option maxRecDepth 100000 in
theorem nextq_any (s sg : ByteArray) (w : World) (hs : 0 < s.size) :
    Calls Tryd.prog 105 #[.string s, .string sg] w (NextQ sg.data.toList s.data.toList w) := by
  have HL := Lib.hid (size_list s)
  have hb0 := bt_of hs
  generalize hc0 : bt s.data.toList 0 = c0 at hb0
  have hc0b : c0 < 256 := by rw [← hc0]; exact bt_lt _ _
  have HC0 := Lib.hid hc0
  clear hc0
  by_cases h92 : c0 = 92
  · by_cases h2 : s.size < 2
    · have HF : Hid (nextN sg.data.toList s.data.toList = (0, 0)) := by
        show _ = _
        unfold nextN; rw [HC0.out, if_neg (by omega), if_pos (by rw [HL.out]; exact h2)]
      subst h92
      go_enter Tryd.func105, Tryd.ntmps105
      go_wp2
      go_ret2
      exact nextQ_of HF.out ⟨0, rfl⟩
    · have hb1 := bt_of (show 1 < s.size by omega)
      generalize hc1 : bt s.data.toList 1 = c1 at hb1
      have hc1b : c1 < 256 := by rw [← hc1]; exact bt_lt _ _
      have HC1 := Lib.hid hc1
      clear hc1
      have hf : nextN sg.data.toList s.data.toList = (if c1 = 110 then (10, 2) else if c1 = 116 then (9, 2) else if UInt8.ofNat c1 ∈ sg.data.toList then (c1, 2) else if c1 = 120 ∧ 4 ≤ s.size then
          (if 0 ≤ hexI (bt s.data.toList 2) ∧ 0 ≤ hexI (bt s.data.toList 3) then ((hexI (bt s.data.toList 2) * 16 + hexI (bt s.data.toList 3)).toNat, 4) else (0, 0)) else (0, 0)) := by
        unfold nextN; rw [HC0.out, HC1.out, HL.out, if_neg (by omega), if_neg (by omega)]
      have HF := Lib.hid hf
      clear hf
      have h1s : (1 : Int) < (s.size : Int) := by omega
      subst h92
      by_cases h110 : c1 = 110
      · have HFF := Lib.hid (HF.out.trans (if_pos h110))
        subst h110
        go_enter Tryd.func105, Tryd.ntmps105
        go_wp2
        go_ret2
        exact nextQ_of HFF.out ⟨0, rfl⟩
      have b110 : ((c1 : Int) == 110) = false := by rw [beq_eq_false_iff_ne]; omega
      by_cases h116 : c1 = 116
      · have HFF := Lib.hid (HF.out.trans ((if_neg h110).trans (if_pos h116)))
        subst h116
        go_enter Tryd.func105, Tryd.ntmps105
        go_wp2
        go_ret2
        exact nextQ_of HFF.out ⟨0, rfl⟩
      have b116 : ((c1 : Int) == 116) = false := by rw [beq_eq_false_iff_ne]; omega
      have hto : ((c1 : Int)).toNat.toUInt8 = UInt8.ofNat c1 := by simp
      have HTO := Lib.hid hto
      clear hto
      by_cases hin : UInt8.ofNat c1 ∈ sg.data.toList
      · have HFF := Lib.hid (HF.out.trans ((if_neg h110).trans ((if_neg h116).trans (if_pos hin))))
        have hge : 0 ≤ Lib.indexByte sg.data.toList (UInt8.ofNat c1) := index_mem.2 hin
        clear hin
        go_enter Tryd.func105, Tryd.ntmps105
        go_wp2_with (go_at_call 99; refine (indexByte_any _ _ _).mono ?_; rw [HTO.out]; rintro e w' ⟨rfl, rfl⟩)
        go_ret2
        exact nextQ_of HFF.out ⟨0, rfl⟩
      · have hf2 := HF.out.trans ((if_neg h110).trans ((if_neg h116).trans (if_neg hin)))
        have HF2 := Lib.hid hf2
        have hlt : Lib.indexByte sg.data.toList (UInt8.ofNat c1) < 0 := by
          rcases Int.lt_or_le (Lib.indexByte sg.data.toList (UInt8.ofNat c1)) 0 with h | h
          · exact h
          · exact absurd (index_mem.1 h) hin
        clear hf2 hin h110 h116
        by_cases h120 : c1 = 120
        · by_cases h4 : 4 ≤ s.size
          · have hb2 := bt_of (show 2 < s.size by omega)
            have hb3 := bt_of (show 3 < s.size by omega)
            have HF3 := Lib.hid (HF2.out.trans (if_pos ⟨h120, h4⟩))
            generalize bt s.data.toList 2 = c2 at hb2 HF3
            generalize bt s.data.toList 3 = c3 at hb3 HF3
            obtain ⟨a1, a2⟩ := hexI_bd c2
            obtain ⟨d1, d2⟩ := hexI_bd c3
            subst h120
            have hlt' : Lib.indexByte sg.data.toList 120 < 0 := hlt
            have HT2 : Hid (((120 : Int)).toNat.toUInt8 = 120) := by show _ = _; decide
            clear hlt
            by_cases hA : 0 ≤ hexI c2
            · by_cases hB : 0 ≤ hexI c3
              · have HFF := Lib.hid (HF3.out.trans (if_pos ⟨hA, hB⟩))
                have hor := shl_or (hexI c2) (hexI c3) ⟨hA, a2⟩ ⟨hB, d2⟩
                have hto : ((hexI c2 * 16 + hexI c3).toNat : Int) = hexI c2 * 16 + hexI c3 := by omega
                have HTT := Lib.hid hto
                clear hto
                go_enter Tryd.func105, Tryd.ntmps105
                go_wp2_with (go_at_call 99; refine (indexByte_any _ _ _).mono ?_; rw [HT2.out]; rintro e w' ⟨rfl, rfl⟩)
                go_quiet ((go_at_call 99; exact Calls.quiet_of_same (hex_any _ _)))
                go_wp2
                go_ret2
                exact ⟨by rw [HFF.out, HTT.out]; rfl, _, rfl⟩
              · have HFF := Lib.hid (HF3.out.trans (if_neg (fun h => hB h.2)))
                go_enter Tryd.func105, Tryd.ntmps105
                go_wp2_with (go_at_call 99; refine (indexByte_any _ _ _).mono ?_; rw [HT2.out]; rintro e w' ⟨rfl, rfl⟩)
                go_quiet ((go_at_call 99; exact Calls.quiet_of_same (hex_any _ _)))
                go_wp2
                go_ret2
                exact nextQ_of HFF.out ⟨_, rfl⟩
            · have HFF := Lib.hid (HF3.out.trans (if_neg (fun h => hA h.1)))
              go_enter Tryd.func105, Tryd.ntmps105
              go_wp2_with (go_at_call 99; refine (indexByte_any _ _ _).mono ?_; rw [HT2.out]; rintro e w' ⟨rfl, rfl⟩)
              go_quiet ((go_at_call 99; exact Calls.quiet_of_same (hex_any _ _)))
              go_wp2
              go_ret2
              exact nextQ_of HFF.out ⟨_, rfl⟩
          · have HF3 := Lib.hid (HF2.out.trans (if_neg (fun h => h4 h.2)))
            subst h120
            have hlt' : Lib.indexByte sg.data.toList 120 < 0 := hlt
            have HT2 : Hid (((120 : Int)).toNat.toUInt8 = 120) := by show _ = _; decide
            clear hlt
            go_enter Tryd.func105, Tryd.ntmps105
            go_wp2_with (go_at_call 99; refine (indexByte_any _ _ _).mono ?_; rw [HT2.out]; rintro e w' ⟨rfl, rfl⟩)
            go_ret2
            exact nextQ_of HF3.out ⟨0, rfl⟩
        · have HF3 := Lib.hid (HF2.out.trans (if_neg (fun h => h120 h.1)))
          have b120 : ((c1 : Int) == 120) = false := by rw [beq_eq_false_iff_ne]; omega
          go_enter Tryd.func105, Tryd.ntmps105
          go_wp2_with (go_at_call 99; refine (indexByte_any _ _ _).mono ?_; rw [HTO.out]; rintro e w' ⟨rfl, rfl⟩)
          go_ret2
          exact nextQ_of HF3.out ⟨0, rfl⟩
  · have hf : nextN sg.data.toList s.data.toList = if c0 = 10 then (0, 0) else (c0, 1) := by unfold nextN; rw [HC0.out, if_pos h92]
    have HF := Lib.hid hf
    clear hf
    have b92 : ((c0 : Int) != 92) = true := by rw [bne_iff_ne]; omega
    by_cases h10 : c0 = 10
    · have HFF := Lib.hid (HF.out.trans (if_pos h10))
      subst h10
      go_enter Tryd.func105, Tryd.ntmps105
      go_wp2
      go_ret2
      exact nextQ_of HFF.out ⟨0, rfl⟩
    · have HFF := Lib.hid (HF.out.trans (if_neg h10))
      have b10 : ((c0 : Int) == 10) = false := by rw [beq_eq_false_iff_ne]; omega
      go_enter Tryd.func105, Tryd.ntmps105
      go_wp2
      go_ret2
      exact nextQ_of HFF.out ⟨0, rfl⟩
end Go.Proofs.YtndhbdbfjkmloaaDoor
namespace Go.Proofs.YtndhbdbfjkmloaaDoor

end Go.Proofs.YtndhbdbfjkmloaaDoor
namespace Go.Proofs.YtndhbdbfjkmloaaDoor
open Go.RowKit

def hasN (l : List Nat) (b : Nat) : Bool := (l.getD (b / 64) 0).testBit (b % 64)
def vals (l : List Nat) : Value := .agg #[.int .u64 (l.getD 0 0 : Nat), .int .u64 (l.getD 1 0 : Nat), .int .u64 (l.getD 2 0 : Nat), .int .u64 (l.getD 3 0 : Nat)]
def Words (l : List Nat) : Prop := ∀ i, l.getD i 0 < 18446744073709551616

theorem and63_u8 : ∀ b : Fin 256, bits .and .u8 ((b : Nat) : Int) 63 = (((b : Nat) % 64 : Nat) : Int) := by decide +kernel
set_option maxRecDepth 100000 in
theorem has_any (l : List Nat) (hl : Words l) (b : Nat) (hb : b < 256) (w : World) :
    Calls Tryd.prog 86 #[vals l, .int .u8 b] w fun e w' => e = .returned (.bool (hasN l b)) ∧ Below w.heap.size w w' := by
  have hc : ∀ W : World, Hid (Blk W w.heap.size 24 #[.int .u64 (l.getD 0 0 : Nat), .int .u64 (l.getD 1 0 : Nat), .int .u64 (l.getD 2 0 : Nat), .int .u64 (l.getD 3 0 : Nat)] → W.cell? ⟨w.heap.size, b / 64, none⟩ = some (.int .u64 (l.getD (b / 64) 0 : Nat))) := fun W hb => by
    rcases (by omega : b / 64 = 0 ∨ b / 64 = 1 ∨ b / 64 = 2 ∨ b / 64 = 3) with h | h | h | h <;> rw [h]
    · exact hb.cell 0
    · exact hb.cell 1
    · exact hb.cell 2
    · exact hb.cell 3
  have hc0 := (hc (w.alloc (.cells #[.int .u64 (l.getD 0 0 : Nat), .int .u64 (l.getD 1 0 : Nat), .int .u64 (l.getD 2 0 : Nat), .int .u64 (l.getD 3 0 : Nat)] 24))).out (blk_at rfl)
  clear hc
  have hx := hl (b / 64)
  clear hl
  unfold vals
  have hand := and63_u8 ⟨b, hb⟩
  simp only at hand
  obtain ⟨q, hq⟩ : ∃ q : Nat, b / 64 = q := ⟨_, rfl⟩
  have hqi : (b : Int) / 64 = (q : Int) := by omega
  have hq0 : (0 : Int) ≤ (q : Int) := by omega
  have hq4 : (q : Int) < 4 := by omega
  obtain ⟨k, hk⟩ : ∃ k : Nat, b % 64 = k := ⟨_, rfl⟩
  rw [hk] at hand
  have HH : Hid (hasN l b = decide ((l.getD (b / 64) 0) / 2 ^ k % 2 = 1)) := by
    show hasN l b = _
    rw [hasN, Nat.testBit_eq_decide_div_mod_eq, hk]
  have hk64 : k < 64 := by omega
  have hk0 : (0 : Int) ≤ (k : Int) := by omega
  rw [hq] at hc0 hx HH
  generalize l.getD q 0 = x at hc0 hx HH
  have hbit : bits .and .u64 ((x : Int) / 2 ^ k) 1 = ((x / 2 ^ k % 2 : Nat) : Int) := by
    have h1 : x / 2 ^ k ≤ x := Nat.div_le_self _ _
    have := u64_and_nat (x / 2 ^ k) 1 (by omega) (by omega)
    rw [Nat.and_one_is_mod, show ((x / 2 ^ k : Nat) : Int) = (x : Int) / 2 ^ k from by simp] at this
    exact this
  rw [HH.out]
  generalize x / 2 ^ k % 2 = y at hbit ⊢
  generalize l.getD 0 0 = e0 at hc0 ⊢
  generalize l.getD 1 0 = e1 at hc0 ⊢
  generalize l.getD 2 0 = e2 at hc0 ⊢
  generalize l.getD 3 0 = e3 at hc0 ⊢
  clear HH hq hk
  go_enter Tryd.func86, Tryd.ntmps86
  go_wp2
  go_ret
  refine ⟨?_, (by repeat (first | exact Below.refl _ _ | assumption | refine Below.drew ?_ | refine below_drewN ?_ _ | refine Below.alloc ?_ (by first | omega | (simp; omega) | simp) _ | refine Below.setCell ?_ (by first | omega | (simp; omega) | simp) _))⟩
  show Ending.returned (.bool ((y : Int) == 1)) = _
  rw [show ((y : Int) == 1) = decide (y = 1) from by rw [Bool.eq_iff_iff]; simp; omega]

end Go.Proofs.YtndhbdbfjkmloaaDoor
namespace Go.Proofs.YtndhbdbfjkmloaaDoor

def cnt (l : List Nat) : Nat → Nat
  | 0 => 0
  | f + 1 => cnt l f + if hasN l f then 1 else 0
theorem cnt_gap (l : List Nat) (f : Nat) : ∀ k, (∀ j, f ≤ j → j < f + k → hasN l j = false) → cnt l (f + k) = cnt l f
  | 0, _ => rfl
  | k + 1, h => by
    show cnt l (f + k + 1) = _
    rw [cnt, h (f + k) (by omega) (by omega), cnt_gap l f k (fun j h1 h2 => h j h1 (by omega))]
    simp

/-- the first byte of a set from f on, or -1 -/
def FirstIs (l : List Nat) (f : Nat) (r : Int) : Prop :=
  (∃ b : Nat, r = b ∧ f ≤ b ∧ b < 256 ∧ hasN l b = true ∧ ∀ j, f ≤ j → j < b → hasN l j = false) ∨ (r = -1 ∧ ∀ j, f ≤ j → j < 256 → hasN l j = false)
theorem FirstIs.cnt {l : List Nat} {f b : Nat} (h : FirstIs l f (b : Int)) : f ≤ b ∧ b < 256 ∧ hasN l b = true ∧ Go.Proofs.YtndhbdbfjkmloaaDoor.cnt l (b + 1) = Go.Proofs.YtndhbdbfjkmloaaDoor.cnt l f + 1 := by
  rcases h with ⟨b', e, h1, h2, h3, h4⟩ | ⟨e, _⟩
  · obtain rfl : b = b' := by omega
    refine ⟨h1, h2, h3, ?_⟩
    have := cnt_gap l f (b - f) (fun j h5 h6 => h4 j h5 (by omega))
    rw [show f + (b - f) = b from by omega] at this
    rw [Go.Proofs.YtndhbdbfjkmloaaDoor.cnt, h3, this]
    simp
  · omega
theorem FirstIs.none {l : List Nat} {f : Nat} {r : Int} (h : FirstIs l f r) (hr : r < 0) (hf : f ≤ 256) : Go.Proofs.YtndhbdbfjkmloaaDoor.cnt l f = Go.Proofs.YtndhbdbfjkmloaaDoor.cnt l 256 := by
  rcases h with ⟨b', e, h1, h2, h3, h4⟩ | ⟨_, h⟩
  · omega
  · have := cnt_gap l f (256 - f) (fun j h5 h6 => h j h5 (by omega))
    rw [show f + (256 - f) = 256 from by omega] at this
    exact this.symm

/-- a word without its lowest k bits -/
theorem cut_bit (w k j : Nat) : (w / 2 ^ k * 2 ^ k).testBit j = (decide (k ≤ j) && w.testBit j) := by
  rw [← Nat.shiftRight_eq_div_pow, ← Nat.shiftLeft_eq, Nat.testBit_shiftLeft, Nat.testBit_shiftRight]
  by_cases h : k ≤ j
  · simp [h]
  · simp [h]
theorem ctz_is (x : Nat) (h0 : x ≠ 0) (hx : x < 18446744073709551616) : x.testBit (Lib.ctz 64 x) = true ∧ Lib.ctz 64 x < 64 ∧ ∀ j, j < Lib.ctz 64 x → x.testBit j = false := by
  obtain ⟨m, hm, hk⟩ := Lib.ctzFrom_spec 64 x (by omega) hx
  have e : Lib.ctz 64 x = Lib.ctzFrom 64 x := by simp [Lib.ctz, h0]
  rw [e]
  generalize Lib.ctzFrom 64 x = c at hm hk
  have hb : ∀ j, x.testBit j = (decide (c ≤ j) && (2 * m + 1).testBit (j - c)) := fun j => by
    rw [hm, Nat.mul_comm, ← Nat.shiftLeft_eq, Nat.testBit_shiftLeft]
  refine ⟨?_, hk, fun j hj => ?_⟩
  · rw [hb, Nat.sub_self]
    simp [Nat.testBit_zero]
  · rw [hb]
    have : ¬ c ≤ j := by omega
    simp [this]
/-- a word that is not empty from bit k on gives the first -/
theorem first_word {l : List Nat} {f i w : Nat} (hi : i < 4) (hw : l.getD i 0 = w) (hlt : w < 18446744073709551616) (k : Nat) (hk : k < 64) (hf : f ≤ 64 * i + k) (hgap : ∀ j, f ≤ j → j < 64 * i + k → hasN l j = false)
    (h0 : w / 2 ^ k * 2 ^ k ≠ 0) : FirstIs l f ((64 * i + Lib.ctz 64 (w / 2 ^ k * 2 ^ k) : Nat) : Int) := by
  have hle : w / 2 ^ k * 2 ^ k ≤ w := Nat.div_mul_le_self _ _
  obtain ⟨h1, h2, h3⟩ := ctz_is _ h0 (by omega)
  generalize Lib.ctz 64 (w / 2 ^ k * 2 ^ k) = c at h1 h2 h3 ⊢
  rw [cut_bit] at h1
  simp at h1
  refine .inl ⟨64 * i + c, rfl, by omega, by omega, ?_, fun j hj hj2 => ?_⟩
  · rw [hasN, show (64 * i + c) / 64 = i from by omega, show (64 * i + c) % 64 = c from by omega, hw]
    exact h1.2
  · by_cases hj3 : j < 64 * i + k
    · exact hgap j hj hj3
    · have := h3 (j - 64 * i) (by omega)
      rw [cut_bit] at this
      have hkj : k ≤ j - 64 * i := by omega
      simp [hkj] at this
      rw [hasN, show j / 64 = i from by omega, show j % 64 = j - 64 * i from by omega, hw]
      exact this
theorem gap_word {l : List Nat} {f i w : Nat} (hw : l.getD i 0 = w) (k : Nat) (hgap : ∀ j, f ≤ j → j < 64 * i + k → hasN l j = false)
    (h0 : w / 2 ^ k * 2 ^ k = 0) : ∀ j, f ≤ j → j < 64 * (i + 1) → hasN l j = false := by
  intro j hj hj2
  by_cases hj3 : j < 64 * i + k
  · exact hgap j hj hj3
  · have h := cut_bit w k (j - 64 * i)
    rw [h0] at h
    have hkj : k ≤ j - 64 * i := by omega
    simp [hkj] at h
    rw [hasN, show j / 64 = i from by omega, show j % 64 = j - 64 * i from by omega, hw]
    exact h
end Go.Proofs.YtndhbdbfjkmloaaDoor
namespace Go.Proofs.YtndhbdbfjkmloaaDoor
open Go.RowKit

structure S4 where
  a : Int
  b : Int
  c : Int
  d : Int
def S4.val (s : S4) : Value := .agg #[.int .u64 s.a, .int .u64 s.b, .int .u64 s.c, .int .u64 s.d]
def S4.map2 (f : Int → Int → Int) (s t : S4) : S4 := ⟨f s.a t.a, f s.b t.b, f s.c t.c, f s.d t.d⟩

def orU (x y : Int) : Int := bits .or .u64 x y
def andU (x y : Int) : Int := bits .and .u64 x y
def notU (x : Int) : Int := bits .xor .u64 18446744073709551615 x

/-- the closure F computes f, and leaves the world alone -/
def Computes (F : Nat) (f : Int → Int → Int) : Prop := ∀ (x y : Int) (w : World), Calls Tryd.prog F #[.int .u64 x, .int .u64 y] w fun e w' => e = .returned (.int .u64 (f x y)) ∧ w = w'

theorem join_fn : Computes 153 orU := by
  intro x y w
  go_enter Tryd.func153, Tryd.ntmps153
  go_wp2
  go_ret
  exact ⟨rfl, rfl⟩
theorem not_fn : Computes 152 fun x _ => notU x := by
  intro x y w
  go_enter Tryd.func152, Tryd.ntmps152
  go_wp2
  go_ret
  exact ⟨rfl, rfl⟩

/-- the words of a set behind k rounds -/
def stage (f : Int → Int → Int) (s t : S4) (k : Nat) : Array Value :=
  #[.int .u64 (if 0 < k then f s.a t.a else s.a), .int .u64 (if 1 < k then f s.b t.b else s.b), .int .u64 (if 2 < k then f s.c t.c else s.c), .int .u64 (if 3 < k then f s.d t.d else s.d)]
theorem stage_step (f : Int → Int → Int) (s t : S4) (k : Nat) (hk : k < 4) :
    ∃ x y, (stage f s t k)[k]? = some (.int .u64 x) ∧ (stage f t t 0)[k]? = some (.int .u64 y) ∧ (stage f s t k).setIfInBounds k (.int .u64 (f x y)) = stage f s t (k + 1) := by
  rcases (by omega : k = 0 ∨ k = 1 ∨ k = 2 ∨ k = 3) with rfl | rfl | rfl | rfl
  · exact ⟨s.a, t.a, rfl, rfl, rfl⟩
  · exact ⟨s.b, t.b, rfl, rfl, rfl⟩
  · exact ⟨s.c, t.c, rfl, rfl, rfl⟩
  · exact ⟨s.d, t.d, rfl, rfl, rfl⟩

theorem both_join (s t : S4) (w : World) :
    Calls Tryd.prog 151 #[s.val, t.val, .func (.func 153) #[] #[]] w fun e w' => e = .returned (S4.map2 orU s t).val ∧ Below w.heap.size w w' := by
  unfold S4.val
  go_enter Tryd.func151, Tryd.ntmps151
  go_wp2
  go_loopw [7, 8] (fun _ i wr => ∃ k : Nat, k ≤ 4 ∧ i = .int .i64 k ∧ Blk wr w.heap.size 24 (stage orU s t k) ∧ Blk wr (w.heap.size + 1) 24 (stage orU t t 0) ∧ Blk wr (w.heap.size + 1 + 1) 24 #[.int .u64 0, .int .u64 0, .int .u64 0, .int .u64 0] ∧ Below w.heap.size w wr) (fun _ i _ => 4 - (intOf i).toNat)
  case atStart => exact ⟨0, by omega, rfl, ((blk_at rfl).alloc _).alloc _, (blk_at (by simp)).alloc _, blk_at (by simp), (by repeat (first | exact Below.refl _ _ | assumption | refine Below.drew ?_ | refine below_drewN ?_ _ | refine Below.alloc ?_ (by first | omega | (simp; omega) | simp) _ | refine Below.setCell ?_ (by first | omega | (simp; omega) | simp) _))⟩
  case round =>
    obtain ⟨k, hk, rfl, hs, ht, hz, hbw⟩ := hrel
    by_cases hk4 : k < 4
    · obtain ⟨x, y, hx, hy, hn⟩ := stage_step orU s t k hk4
      have hcx := hs.cell k
      have hcy := ht.cell k
      have hfz := hs.frozen k
      rw [hx] at hcx
      rw [hy] at hcy
      have HN := Lib.hid hn
      clear hx hy hn
      have hk0 : (0 : Int) ≤ (k : Int) := by omega
      have hk1 : (k : Int) < 4 := by omega
      go_wp2_with fail
      go_region_with (go_at_call 153; refine (join_fn x y _).mono ?_; rintro e w' ⟨rfl, rfl⟩)
      all_goals
        go_wp2
        go_roundw
        case rel =>
          refine ⟨k + 1, by omega, by go_num, ?_, ht.far (by simp) _, hz.far (by simp; omega) _, (hbw.drew).setCell (Nat.le_refl _) _⟩
          have := (hs.drew).set_ k (.int .u64 (orU x y))
          rw [HN.out] at this
          exact this
        case measure => simp [intOf]; omega
    · obtain rfl : k = 4 := by omega
      have h0 : wr.cell? ⟨w.heap.size, 0, none⟩ = some (.int .u64 (orU s.a t.a)) := hs.cell 0
      have h1 : wr.cell? ⟨w.heap.size, 1, none⟩ = some (.int .u64 (orU s.b t.b)) := hs.cell 1
      have h2 : wr.cell? ⟨w.heap.size, 2, none⟩ = some (.int .u64 (orU s.c t.c)) := hs.cell 2
      have h3 : wr.cell? ⟨w.heap.size, 3, none⟩ = some (.int .u64 (orU s.d t.d)) := hs.cell 3
      have z0 : wr.cell? ⟨w.heap.size + 1 + 1, 0, none⟩ = some (.int .u64 0) := hz.cell 0
      have z1 : wr.cell? ⟨w.heap.size + 1 + 1, 1, none⟩ = some (.int .u64 0) := hz.cell 1
      have z2 : wr.cell? ⟨w.heap.size + 1 + 1, 2, none⟩ = some (.int .u64 0) := hz.cell 2
      have z3 : wr.cell? ⟨w.heap.size + 1 + 1, 3, none⟩ = some (.int .u64 0) := hz.cell 3
      have f0 := hz.frozen 0
      have f1 := hz.frozen 1
      have f2 := hz.frozen 2
      have f3 := hz.frozen 3
      have e0 : (wr.setCell ⟨w.heap.size + 1 + 1, 0, none⟩ (.int .u64 (orU s.a t.a))).cell? ⟨w.heap.size + 1 + 1, 0, none⟩ = some (.int .u64 (orU s.a t.a)) := (hz.set_ 0 _).cell 0
      have e1 : ((wr.setCell ⟨w.heap.size + 1 + 1, 0, none⟩ (.int .u64 (orU s.a t.a))).setCell ⟨w.heap.size + 1 + 1, 1, none⟩ (.int .u64 (orU s.b t.b))).cell? ⟨w.heap.size + 1 + 1, 1, none⟩ = some (.int .u64 (orU s.b t.b)) := ((hz.set_ 0 _).set_ 1 _).cell 1
      have e2 : (((wr.setCell ⟨w.heap.size + 1 + 1, 0, none⟩ (.int .u64 (orU s.a t.a))).setCell ⟨w.heap.size + 1 + 1, 1, none⟩ (.int .u64 (orU s.b t.b))).setCell ⟨w.heap.size + 1 + 1, 2, none⟩ (.int .u64 (orU s.c t.c))).cell? ⟨w.heap.size + 1 + 1, 2, none⟩ = some (.int .u64 (orU s.c t.c)) := (((hz.set_ 0 _).set_ 1 _).set_ 2 _).cell 2
      have e3 : ((((wr.setCell ⟨w.heap.size + 1 + 1, 0, none⟩ (.int .u64 (orU s.a t.a))).setCell ⟨w.heap.size + 1 + 1, 1, none⟩ (.int .u64 (orU s.b t.b))).setCell ⟨w.heap.size + 1 + 1, 2, none⟩ (.int .u64 (orU s.c t.c))).setCell ⟨w.heap.size + 1 + 1, 3, none⟩ (.int .u64 (orU s.d t.d))).cell? ⟨w.heap.size + 1 + 1, 3, none⟩ = some (.int .u64 (orU s.d t.d)) := ((((hz.set_ 0 _).set_ 1 _).set_ 2 _).set_ 3 _).cell 3
      go_wp2
      exact bodyPost_ret (v := (S4.map2 orU s t).val) (by simp [results, Tryd.results151, go_sem, e0, e1, e2, e3]; rfl) rfl ⟨rfl, (by repeat (first | exact Below.refl _ _ | assumption | refine Below.drew ?_ | refine below_drewN ?_ _ | refine Below.alloc ?_ (by first | omega | (simp; omega) | simp) _ | refine Below.setCell ?_ (by first | omega | (simp; omega) | simp) _))⟩


theorem both_not (s t : S4) (w : World) :
    Calls Tryd.prog 151 #[s.val, t.val, .func (.func 152) #[] #[]] w fun e w' => e = .returned (S4.map2 (fun x _ => notU x) s t).val ∧ Below w.heap.size w w' := by
  unfold S4.val
  go_enter Tryd.func151, Tryd.ntmps151
  go_wp2
  go_loopw [7, 8] (fun _ i wr => ∃ k : Nat, k ≤ 4 ∧ i = .int .i64 k ∧ Blk wr w.heap.size 24 (stage (fun x _ => notU x) s t k) ∧ Blk wr (w.heap.size + 1) 24 (stage (fun x _ => notU x) t t 0) ∧ Blk wr (w.heap.size + 1 + 1) 24 #[.int .u64 0, .int .u64 0, .int .u64 0, .int .u64 0] ∧ Below w.heap.size w wr) (fun _ i _ => 4 - (intOf i).toNat)
  case atStart => exact ⟨0, by omega, rfl, ((blk_at rfl).alloc _).alloc _, (blk_at (by simp)).alloc _, blk_at (by simp), (by repeat (first | exact Below.refl _ _ | assumption | refine Below.drew ?_ | refine below_drewN ?_ _ | refine Below.alloc ?_ (by first | omega | (simp; omega) | simp) _ | refine Below.setCell ?_ (by first | omega | (simp; omega) | simp) _))⟩
  case round =>
    obtain ⟨k, hk, rfl, hs, ht, hz, hbw⟩ := hrel
    by_cases hk4 : k < 4
    · obtain ⟨x, y, hx, hy, hn⟩ := stage_step (fun x _ => notU x) s t k hk4
      have hcx := hs.cell k
      have hcy := ht.cell k
      have hfz := hs.frozen k
      rw [hx] at hcx
      rw [hy] at hcy
      have HN := Lib.hid hn
      clear hx hy hn
      have hk0 : (0 : Int) ≤ (k : Int) := by omega
      have hk1 : (k : Int) < 4 := by omega
      go_wp2_with fail
      go_region_with (go_at_call 152; refine (not_fn x y _).mono ?_; rintro e w' ⟨rfl, rfl⟩)
      all_goals
        go_wp2
        go_roundw
        case rel =>
          refine ⟨k + 1, by omega, by go_num, ?_, ht.far (by simp) _, hz.far (by simp; omega) _, (hbw.drew).setCell (Nat.le_refl _) _⟩
          have := (hs.drew).set_ k (.int .u64 ((fun x _ => notU x) x y))
          rw [HN.out] at this
          exact this
        case measure => simp [intOf]; omega
    · obtain rfl : k = 4 := by omega
      have h0 : wr.cell? ⟨w.heap.size, 0, none⟩ = some (.int .u64 ((fun x _ => notU x) s.a t.a)) := hs.cell 0
      have h1 : wr.cell? ⟨w.heap.size, 1, none⟩ = some (.int .u64 ((fun x _ => notU x) s.b t.b)) := hs.cell 1
      have h2 : wr.cell? ⟨w.heap.size, 2, none⟩ = some (.int .u64 ((fun x _ => notU x) s.c t.c)) := hs.cell 2
      have h3 : wr.cell? ⟨w.heap.size, 3, none⟩ = some (.int .u64 ((fun x _ => notU x) s.d t.d)) := hs.cell 3
      have z0 : wr.cell? ⟨w.heap.size + 1 + 1, 0, none⟩ = some (.int .u64 0) := hz.cell 0
      have z1 : wr.cell? ⟨w.heap.size + 1 + 1, 1, none⟩ = some (.int .u64 0) := hz.cell 1
      have z2 : wr.cell? ⟨w.heap.size + 1 + 1, 2, none⟩ = some (.int .u64 0) := hz.cell 2
      have z3 : wr.cell? ⟨w.heap.size + 1 + 1, 3, none⟩ = some (.int .u64 0) := hz.cell 3
      have f0 := hz.frozen 0
      have f1 := hz.frozen 1
      have f2 := hz.frozen 2
      have f3 := hz.frozen 3
      have e0 : (wr.setCell ⟨w.heap.size + 1 + 1, 0, none⟩ (.int .u64 ((fun x _ => notU x) s.a t.a))).cell? ⟨w.heap.size + 1 + 1, 0, none⟩ = some (.int .u64 ((fun x _ => notU x) s.a t.a)) := (hz.set_ 0 _).cell 0
      have e1 : ((wr.setCell ⟨w.heap.size + 1 + 1, 0, none⟩ (.int .u64 ((fun x _ => notU x) s.a t.a))).setCell ⟨w.heap.size + 1 + 1, 1, none⟩ (.int .u64 ((fun x _ => notU x) s.b t.b))).cell? ⟨w.heap.size + 1 + 1, 1, none⟩ = some (.int .u64 ((fun x _ => notU x) s.b t.b)) := ((hz.set_ 0 _).set_ 1 _).cell 1
      have e2 : (((wr.setCell ⟨w.heap.size + 1 + 1, 0, none⟩ (.int .u64 ((fun x _ => notU x) s.a t.a))).setCell ⟨w.heap.size + 1 + 1, 1, none⟩ (.int .u64 ((fun x _ => notU x) s.b t.b))).setCell ⟨w.heap.size + 1 + 1, 2, none⟩ (.int .u64 ((fun x _ => notU x) s.c t.c))).cell? ⟨w.heap.size + 1 + 1, 2, none⟩ = some (.int .u64 ((fun x _ => notU x) s.c t.c)) := (((hz.set_ 0 _).set_ 1 _).set_ 2 _).cell 2
      have e3 : ((((wr.setCell ⟨w.heap.size + 1 + 1, 0, none⟩ (.int .u64 ((fun x _ => notU x) s.a t.a))).setCell ⟨w.heap.size + 1 + 1, 1, none⟩ (.int .u64 ((fun x _ => notU x) s.b t.b))).setCell ⟨w.heap.size + 1 + 1, 2, none⟩ (.int .u64 ((fun x _ => notU x) s.c t.c))).setCell ⟨w.heap.size + 1 + 1, 3, none⟩ (.int .u64 ((fun x _ => notU x) s.d t.d))).cell? ⟨w.heap.size + 1 + 1, 3, none⟩ = some (.int .u64 ((fun x _ => notU x) s.d t.d)) := ((((hz.set_ 0 _).set_ 1 _).set_ 2 _).set_ 3 _).cell 3
      go_wp2
      exact bodyPost_ret (v := (S4.map2 (fun x _ => notU x) s t).val) (by simp [results, Tryd.results151, go_sem, e0, e1, e2, e3]; rfl) rfl ⟨rfl, (by repeat (first | exact Below.refl _ _ | assumption | refine Below.drew ?_ | refine below_drewN ?_ _ | refine Below.alloc ?_ (by first | omega | (simp; omega) | simp) _ | refine Below.setCell ?_ (by first | omega | (simp; omega) | simp) _))⟩
end Go.Proofs.YtndhbdbfjkmloaaDoor
namespace Go.Proofs.YtndhbdbfjkmloaaDoor
open Go.RowKit

theorem join_any (s t : S4) (w : World) : Calls Tryd.prog 135 #[s.val, t.val] w fun e w' => e = .returned (S4.map2 orU s t).val ∧ Below w.heap.size w w' := by
  have hc := both_join s t
  have HC := Lib.hid hc
  clear hc
  unfold S4.val at HC ⊢
  go_enter Tryd.func135, Tryd.ntmps135
  go_wp2_with fail
  refine (HC.out _).mono ?_
  rintro e w1 ⟨rfl, hb1⟩
  have hz : Blk w1 (w.heap.size + 1 + 1) 24 #[.int .u64 0, .int .u64 0, .int .u64 0, .int .u64 0] := (blk_at (by simp)).below hb1 (by simp)
  have hw1 : Below w.heap.size w w1 := Below.trans (by repeat (first | exact Below.refl _ _ | assumption | refine Below.drew ?_ | refine below_drewN ?_ _ | refine Below.alloc ?_ (by first | omega | (simp; omega) | simp) _ | refine Below.setCell ?_ (by first | omega | (simp; omega) | simp) _)) (hb1.mono (by first | omega | (simp; omega) | simp))
  have hz1 := hw1.size
  clear hb1
  have z0 : w1.cell? ⟨w.heap.size + 1 + 1, 0, none⟩ = some (.int .u64 0) := hz.cell 0
  have z1 : w1.cell? ⟨w.heap.size + 1 + 1, 1, none⟩ = some (.int .u64 0) := hz.cell 1
  have z2 : w1.cell? ⟨w.heap.size + 1 + 1, 2, none⟩ = some (.int .u64 0) := hz.cell 2
  have z3 : w1.cell? ⟨w.heap.size + 1 + 1, 3, none⟩ = some (.int .u64 0) := hz.cell 3
  have f0 := hz.frozen 0
  have f1 := hz.frozen 1
  have f2 := hz.frozen 2
  have f3 := hz.frozen 3
  have e0 : (w1.setCell ⟨w.heap.size + 1 + 1, 0, none⟩ (.int .u64 (orU s.a t.a))).cell? ⟨w.heap.size + 1 + 1, 0, none⟩ = some (.int .u64 (orU s.a t.a)) := (hz.set_ 0 _).cell 0
  have e1 : ((w1.setCell ⟨w.heap.size + 1 + 1, 0, none⟩ (.int .u64 (orU s.a t.a))).setCell ⟨w.heap.size + 1 + 1, 1, none⟩ (.int .u64 (orU s.b t.b))).cell? ⟨w.heap.size + 1 + 1, 1, none⟩ = some (.int .u64 (orU s.b t.b)) := ((hz.set_ 0 _).set_ 1 _).cell 1
  have e2 : (((w1.setCell ⟨w.heap.size + 1 + 1, 0, none⟩ (.int .u64 (orU s.a t.a))).setCell ⟨w.heap.size + 1 + 1, 1, none⟩ (.int .u64 (orU s.b t.b))).setCell ⟨w.heap.size + 1 + 1, 2, none⟩ (.int .u64 (orU s.c t.c))).cell? ⟨w.heap.size + 1 + 1, 2, none⟩ = some (.int .u64 (orU s.c t.c)) := (((hz.set_ 0 _).set_ 1 _).set_ 2 _).cell 2
  have e3 : ((((w1.setCell ⟨w.heap.size + 1 + 1, 0, none⟩ (.int .u64 (orU s.a t.a))).setCell ⟨w.heap.size + 1 + 1, 1, none⟩ (.int .u64 (orU s.b t.b))).setCell ⟨w.heap.size + 1 + 1, 2, none⟩ (.int .u64 (orU s.c t.c))).setCell ⟨w.heap.size + 1 + 1, 3, none⟩ (.int .u64 (orU s.d t.d))).cell? ⟨w.heap.size + 1 + 1, 3, none⟩ = some (.int .u64 (orU s.d t.d)) := ((((hz.set_ 0 _).set_ 1 _).set_ 2 _).set_ 3 _).cell 3
  unfold S4.map2 at *
  go_wp2
  exact bodyPost_ret (v := .agg #[.int .u64 (orU s.a t.a), .int .u64 (orU s.b t.b), .int .u64 (orU s.c t.c), .int .u64 (orU s.d t.d)]) (by simp [results, Tryd.results135, go_sem, e0, e1, e2, e3]) rfl ⟨rfl, (by repeat (first | exact Below.refl _ _ | assumption | refine Below.drew ?_ | refine below_drewN ?_ _ | refine Below.alloc ?_ (by first | omega | (simp; omega) | simp) _ | refine Below.setCell ?_ (by first | omega | (simp; omega) | simp) _))⟩
end Go.Proofs.YtndhbdbfjkmloaaDoor
