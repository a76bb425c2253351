/- Words of memory for this seat's proofs: a run of cells that can be read, a block that is known whole, ints, and what a world keeps. What strings.IndexByte, walk.Alpha, walk.shorter and walk.Over answer. What walk.shorter and walk.Over answer. Rows of bytes: what []byte(s) lays, and a block whose frozen mark lies behind its cells. What quote.one answers. chaffref.Words over one or two bytes, of at most four: how many and how long. Expressions in memory. What expr.Name answers. Sets are compared word by word; the walk of the law SetAlgebra. -/
import Derived.WalkKit
import Derived.LoopTactic
import Derived.Below
import Derived.Laws.OwnMore
import Derived.Deep.AppendLies
import Derived.Deep.Draws
import Derived.Laws.Rows
import Derived.Maps.AppendAt
import Derived.RegionTactic
import Derived.OwnWalk
import Derived.Lib.Hide
import Derived.Test.YtndhbdbfjkmloaaGreatDoorProg
import Derived.BigQuiet
import Derived.Deep.QuietTactic
import Derived.Lib.Bytealg
import Derived.Lib.IndexLaws
import Derived.Laws.IdiomStrings
import Derived.ChangeKeysEq
namespace Go.Proofs.YtndhbdbfjkmloaaGreatDoor
open Go.RowKit


theorem add_block (a : Addr) (n : Nat) : (a.add n).block = a.block := by
  cases n with
  | zero => rfl
  | succ n => rfl
theorem add_add' (a : Addr) (i j : Nat) : (a.add i).add j = a.add (i + j) := by
  cases i with
  | zero => rw [Nat.zero_add]; rfl
  | succ i => cases j with
    | zero => rfl
    | succ j => simp [Addr.add]; omega

/-- a run of n elements of 'size' cells each begins at A, lies below block B, and holds the cells xs (where n is 0, of A nothing is said) -/
structure Reads (w : World) (B size : Nat) (A : Option Addr) (n : Nat) (xs : List Value) : Prop where
  len : xs.length = n * size
  lies : 0 < n → ∃ ad : Addr, A = some ad ∧ ad.block < B ∧ ∀ j u, xs[j]? = some u → w.cell? (ad.add j) = some u

section
variable {w w' : World} {B B' size n : Nat} {A : Option Addr} {xs : List Value}
theorem Reads.none_ : Reads w B size A 0 [] := ⟨by simp, by omega⟩
theorem Reads.at_ {k : Nat} (h : Reads w B 1 A n xs) (hk : k < n) : ∃ ad u, A = some ad ∧ ad.block < B ∧ xs[k]? = some u ∧ w.cell? (ad.add k) = some u := by
  obtain ⟨ad, rfl, hb, hc⟩ := h.lies (by omega)
  have hx := List.getElem?_eq_getElem (l := xs) (i := k) (by have := h.len; omega)
  exact ⟨ad, _, rfl, hb, hx, hc k _ hx⟩
/-- in another world that has the same cells below B -/
theorem Reads.keep (h : Reads w B size A n xs) (hk : ∀ p : Addr, p.block < B → w'.cell? p = w.cell? p) : Reads w' B size A n xs where
  len := h.len
  lies hn := by
    obtain ⟨ad, e, hb, hc⟩ := h.lies hn
    refine ⟨ad, e, hb, fun j u hu => ?_⟩
    rw [hk _ (by rwa [add_block])]
    exact hc j u hu
theorem Reads.more (h : Reads w B size A n xs) (hB : B ≤ B') : Reads w B' size A n xs where
  len := h.len
  lies hn := by
    obtain ⟨ad, e, hb, hc⟩ := h.lies hn
    exact ⟨ad, e, Nat.lt_of_lt_of_le hb hB, hc⟩
theorem Reads.below (h : Reads w B size A n xs) (hb : Below B w w') : Reads w' B size A n xs := h.keep fun _ => hb.cell
theorem Reads.drewN (h : Reads w B size A n xs) (k : Nat) : Reads (w.drewN k) B size A n xs := ⟨h.len, h.lies⟩
theorem Reads.drew (h : Reads w B size A n xs) : Reads w.drew B size A n xs := ⟨h.len, h.lies⟩
theorem Reads.alloc (h : Reads w B size A n xs) (hB : B ≤ w.heap.size) (o : Obj) : Reads (w.alloc o) B size A n xs :=
  h.keep fun p hp => World.cell?_alloc_lt w o p (Nat.lt_of_lt_of_le hp hB)
theorem Reads.setCell (h : Reads w B size A n xs) {p : Addr} (hB : B ≤ p.block) (u : Value) : Reads (w.setCell p u) B size A n xs :=
  h.keep fun q hq => World.cell?_setCell_other w p q u (by rintro rfl; omega)
theorem Reads.grown (h : Reads w B size A n xs) {row : Option Nat} (hg : w.grownBy w' row) (hB : B ≤ w.heap.size) (hr : ∀ g, row = some g → B ≤ g) : Reads w' B size A n xs :=
  h.keep fun p hp => World.cell?_of_block (hg.block p.block (by omega) fun e => by have := hr p.block e.symm; omega)
/-- what a call owns can be read -/
theorem Reads.of_own {base : Nat} {e : TypeId} {c : Nat} (h : w.ownsRow base e size (.slice A n c) n xs) : Reads w w.heap.size size A n xs where
  len := h.1
  lies hn := by
    obtain ⟨g, cap, hv, _, hlt⟩ := h.form hn
    simp only [Value.slice.injEq] at hv
    obtain ⟨rfl, -, -⟩ := hv
    exact ⟨⟨g, 0, none⟩, rfl, hlt, h.cells (g := g) rfl⟩
end

/-- block g is just these cells, none of them frozen -/
def Blk (w : World) (g : Nat) (t : TypeId) (cs : Array Value) : Prop := w.heap[g]? = some (.cells cs t (0, 0))

section
variable {w w' : World} {g : Nat} {t : TypeId} {cs : Array Value}
theorem Blk.lt (h : Blk w g t cs) : g < w.heap.size := (Array.getElem?_eq_some_iff.1 h).1
theorem Blk.cell (h : Blk w g t cs) (i : Nat) : w.cell? ⟨g, i, none⟩ = cs[i]? := cell_of_row w g i cs t (0, 0) h
theorem Blk.frozen (h : Blk w g t cs) (i : Nat) : w.frozen? ⟨g, i, none⟩ = false := by
  have h' : w.heap[g]? = some (.cells cs t (0, 0)) := h
  simp [World.frozen?, h']
theorem Blk.new (w : World) (t : TypeId) (cs : Array Value) : Blk (w.alloc (.cells cs t)) w.heap.size t cs := heap_alloc_new w _
theorem Blk.drewN (h : Blk w g t cs) (n : Nat) : Blk (w.drewN n) g t cs := h
theorem Blk.drew (h : Blk w g t cs) : Blk w.drew g t cs := h
theorem Blk.alloc (h : Blk w g t cs) (o : Obj) : Blk (w.alloc o) g t cs := (Below.heap_alloc w o g h.lt).trans h
theorem Blk.set_ (h : Blk w g t cs) (i : Nat) (u : Value) : Blk (w.setCell ⟨g, i, none⟩ u) g t (cs.setIfInBounds i u) := by
  have h' : w.heap[g]? = some (.cells cs t (0, 0)) := h
  show (w.setCell ⟨g, i, none⟩ u).heap[g]? = _
  simp [World.setCell, Array.getElem?_modify, h']
theorem Blk.far (h : Blk w g t cs) {p : Addr} (hp : g ≠ p.block) (u : Value) : Blk (w.setCell p u) g t cs := (Below.heap_setCell w p u g hp).trans h
theorem Blk.below {B : Nat} (h : Blk w g t cs) (hb : Below B w w') (hg : g < B) : Blk w' g t cs := (hb.block g hg).trans h
theorem Blk.grown {row : Option Nat} (h : Blk w g t cs) (hb : w.grownBy w' row) (hg : some g ≠ row) : Blk w' g t cs := (hb.block g h.lt hg).trans h
end

/-- a Go int -/
def I64 (z : Int) : Prop := -9223372036854775808 ≤ z ∧ z ≤ 9223372036854775807
/-- how long a slice of 8-byte things that came in may be -/
def Small (n : Nat) : Prop := n ≤ 17592186044415

theorem below_drewN {B : Nat} {a w : World} (h : Below B a w) (n : Nat) : Below B a (w.drewN n) := ⟨h.os, h.tape, h.output, h.size, h.block⟩
/-- the append's own row does not lie below the base -/
theorem below_app {B : Nat} {a w w' : World} {v : Value} {base n size : Nat} {e : TypeId} {xs : List Value} (h : Below B a w) (hown : w.ownsRow base e size v n xs) (hg : w.grownBy w' v.ownBlock) (hB : B ≤ w.heap.size) (hbase : B ≤ base) : Below B a w' :=
  h.grown hg hB fun k hk => by have := hown.lt k hk; omega
theorem own_form {w : World} {base : Nat} {e : TypeId} {size : Nat} {v : Value} {n : Nat} {xs : List Value} (h : w.ownsRow base e size v n xs) : ∃ V c, v = .slice V n c := by
  rcases h.2 with ⟨rfl, rfl⟩ | ⟨g, cap, _, rfl, _⟩
  · exact ⟨_, _, rfl⟩
  · exact ⟨_, _, rfl⟩
theorem grown_of_below {w w' : World} (h : Below w.heap.size w w') (row : Option Nat) : w.grownBy w' row := ⟨h.os, h.tape, h.output, h.size, fun k hk _ => h.block k hk⟩
theorem own_below {w w' : World} {base : Nat} {e : TypeId} {size : Nat} {v : Value} {n : Nat} {xs : List Value} (h : w.ownsRow base e size v n xs) (hb : Below w.heap.size w w') : w'.ownsRow base e size v n xs :=
  h.kept (grown_of_below hb none) (by cases h' : v.ownBlock <;> simp)
theorem own_far {w w' : World} {base : Nat} {e : TypeId} {size : Nat} {v : Value} {n : Nat} {xs : List Value} (h : w.ownsRow base e size v n xs) {g : Nat} (hg : w.grownBy w' (some g)) (hlt : g < base) : w'.ownsRow base e size v n xs :=
  h.kept hg (.inr fun e => by have := h.lt g e; omega)
theorem own_ne {w : World} {base : Nat} {e : TypeId} {size : Nat} {v : Value} {n : Nat} {xs : List Value} (h : w.ownsRow base e size v n xs) {b : Nat} (hb : b < base) : some b ≠ v.ownBlock := fun e => absurd (h.lt _ e.symm).1 (by omega)
theorem getElem?_lt {α : Type} {l : List α} {k : Nat} {x : α} (h : l[k]? = some x) : k < l.length := (List.getElem?_eq_some_iff.1 h).1
theorem take_succ_of {α : Type} {l : List α} {k : Nat} {x : α} (h : l[k]? = some x) : l.take (k + 1) = l.take k ++ [x] := by
  rw [List.take_add_one, h]; rfl
theorem ret_int {k : IntKind} {a b : Int} (h : a = b) : Ending.returned (.int k a) = .returned (.int k b) := by rw [h]
theorem ret_bool {a b : Bool} (h : a = b) : Ending.returned (.bool a) = .returned (.bool b) := by rw [h]
/-- make([]T, n, c): what run_make says, at numbers that are not below 0 -/
theorem made_run {P : Program} {t e : TypeId} {i : TypeInfo} {z : Value} (ht : P.underlying t = some (.slice e)) (hi : P.info? e = some i) (hz : i.zero = some z)
    (kl kc : IntKind) {n c : Nat} (hnc : n ≤ c) (hb : (i.bytes : Int) * (c : Int) ≤ 281474976710656) (hc : c ≤ 9223372036854775807) (w : World) :
    (Instr.makeSlice t (.int kl (n : Int)) (.int kc (c : Int))).run P w = .ok (.slice (some ⟨w.heap.size, 0, none⟩) n c) (w.alloc (.cells (madeCells z.cells (c * i.size)) e)) := by
  simpa using run_make (P := P) w t e i z ht hi hz kl kc (n : Int) (c : Int) (by omega) (by omega) hb (by omega)
theorem blk_at {w : World} {g : Nat} {t : TypeId} {cs : Array Value} (h : g = w.heap.size) : Blk (w.alloc (.cells cs t)) g t cs := by rw [h]; exact Blk.new w t cs
theorem Reads.on {w w' : World} {size n C : Nat} {A : Option Addr} {xs : List Value} (h : Reads w w.heap.size size A n xs) (hb : Below C w w') (hC : w.heap.size ≤ C) : Reads w' w'.heap.size size A n xs := (h.below (hb.mono hC)).more hb.size
end Go.Proofs.YtndhbdbfjkmloaaGreatDoor
namespace Go.Proofs.YtndhbdbfjkmloaaGreatDoor
open Go.RowKit

set_option maxRecDepth 100000 in
theorem indexByte_lite (s : ByteArray) (c : Int) (w : World) :
    Calls Tryz.prog 61 #[.string s, .int .u8 c] w fun e w' => e = .returned (.int .i64 (Lib.indexByte s.data.toList c.toNat.toUInt8)) ∧ w = w' := by
  go_enter Tryz.func61, Tryz.ntmps61
  go_wp2
  rw [run_callFunc_extern Tryz.func85 (by kernel_rfl) (by kernel_rfl) (by kernel_rfl) (e := Extern.BytealgIndexByte.indexByte) (by kernel_rfl), Lib.run_indexByteString]
  simp only [Result.andThen]
  rw [Oper.upon_value]
  go_wp2
  go_ret
  exact ⟨rfl, rfl⟩
set_option maxRecDepth 100000 in
theorem indexByte_any (s : ByteArray) (c : Int) (w : World) :
    Calls Tryz.prog 45 #[.string s, .int .u8 c] w fun e w' => e = .returned (.int .i64 (Lib.indexByte s.data.toList c.toNat.toUInt8)) ∧ w = w' := by
  go_enter Tryz.func45, Tryz.ntmps45
  go_wp2_with (go_at_call 61; refine (indexByte_lite _ _ _).mono ?_; rintro e w' ⟨rfl, rfl⟩)
  go_ret
  exact ⟨rfl, rfl⟩

/-- the byte at place k, as a number -/
def bt (l : List UInt8) (k : Nat) : Nat := (l.getD k 0).toNat
theorem bt_of {s : ByteArray} {k : Nat} (h : k < s.size) : s[k].toNat = bt s.data.toList k := by
  have h' : k < s.data.toList.length := by simpa using h
  unfold bt
  rw [List.getD_eq_getElem?_getD, List.getElem?_eq_getElem h']
  rfl
theorem bt_lt (l : List UInt8) (k : Nat) : bt l k < 256 := (l.getD k 0).toNat_lt

def Rises (l : List UInt8) (k : Nat) : Prop := ∀ i, 1 ≤ i → i < k → bt l (i - 1) < bt l i
def AlphaOk (l : List UInt8) : Prop := l ≠ [] ∧ l.length ≤ 8 ∧ Rises l l.length
theorem size_list (s : ByteArray) : s.data.toList.length = s.size := by simp

theorem get_byte {s : ByteArray} {k : Nat} (h : k < s.size) : s.data.toList[k]? = some s[k] := by rw [List.getElem?_eq_getElem (by rw [size_list]; exact h)]; rfl

set_option maxRecDepth 100000 in
theorem alpha3_any (a : ByteArray) (w : World) (hs : a.size ≤ 140737488351232) : Calls Tryz.prog 40 #[.string a] w fun e w' => (∃ n, e = .returned (.int .i64 n) ∧ (n = 0 ↔ AlphaOk a.data.toList) ∧ n ≠ 11) ∧ ∃ d, w' = w.drewN d := by
  have hl := size_list a
  have HL := Lib.hid hl
  clear hl
  by_cases h0 : a.size = 0
  · have he : a.toList = [] := by rw [ByteArray.toList_eq]; exact List.eq_nil_of_length_eq_zero (by rw [HL.out]; exact h0)
    have he' : (!a.toList.isEmpty) = false := by rw [he]; rfl
    go_enter Tryz.func40, Tryz.ntmps40
    go_wp2
    go_ret
    exact ⟨⟨1, rfl, by simp [AlphaOk, List.eq_nil_of_length_eq_zero (HL.out.trans h0)], by decide⟩, 0, rfl⟩
  have hne : a.data.toList ≠ [] := fun h => h0 (by rw [← HL.out, h]; rfl)
  have he : a.toList.isEmpty = false := by rw [ByteArray.toList_eq]; cases h : a.data.toList with
    | nil => exact absurd h hne
    | cons _ _ => rfl
  by_cases h8 : 8 < a.size
  · have Hn : Hid ((2 : Int) = 0 ↔ AlphaOk a.data.toList) := ⟨fun h => by omega, fun h => by have := h.2.1; rw [HL.out] at this; omega⟩
    go_enter Tryz.func40, Tryz.ntmps40
    go_wp2
    go_ret
    exact ⟨⟨2, rfl, Hn.out, by decide⟩, 0, rfl⟩
  have HNE := Lib.hid hne
  clear hne
  go_enter Tryz.func40, Tryz.ntmps40
  go_wp2
  go_loopw [3] (fun i wr => ∃ k d : Nat, 1 ≤ k ∧ k ≤ a.size ∧ i = .int .i64 k ∧ Rises a.data.toList k ∧ wr = w.drewN d) (fun i _ => a.size - (intOf i).toNat)
  case atStart => exact ⟨1, 0, by omega, by omega, rfl, fun i h1 h2 => by omega, rfl⟩
  case round =>
    obtain ⟨k, d, hk1, hk, rfl, hr, rfl⟩ := hrel
    have HR := Lib.hid hr
    clear hr
    by_cases hkn : k < a.size
    · have hb1 := bt_of hkn
      obtain ⟨j, rfl⟩ : ∃ j, k = j + 1 := ⟨k - 1, by omega⟩
      have hb2 := bt_of (show j < a.size by omega)
      by_cases hlt : bt a.data.toList j < bt a.data.toList (j + 1)
      · have hle : (((bt a.data.toList (j + 1) : Nat) : Int) ≤ ((bt a.data.toList j : Nat) : Int)) = False := by simp; omega
        go_wp2
        go_quiet (fail)
        go_wp2
        go_roundw
        case rel => exact ⟨j + 2, _, by omega, by omega, by go_num, fun i h1 h2 => by
          by_cases hi : i < j + 1
          · exact HR.out i h1 hi
          · obtain rfl : i = j + 1 := by omega
            exact hlt, rfl⟩
        case measure => simp [intOf]; omega
      · have hge : bt a.data.toList (j + 1) ≤ bt a.data.toList j := by omega
        go_wp2
        go_quiet (fail)
        go_wp2
        go_ret
        exact ⟨⟨3, rfl, by simp; exact fun h => absurd (h.2.2 (j + 1) (by omega) (by rw [HL.out]; omega)) (by simpa using hlt), by decide⟩, _, World.drewN_drewN _ _ _⟩
    · obtain rfl : k = a.size := by omega
      go_wp2
      go_ret
      exact ⟨⟨0, rfl, by simp; exact ⟨HNE.out, by rw [HL.out]; omega, by rw [HL.out]; exact HR.out⟩, by decide⟩, d, rfl⟩
end Go.Proofs.YtndhbdbfjkmloaaGreatDoor
namespace Go.Proofs.YtndhbdbfjkmloaaGreatDoor
open Go.RowKit

/-- how many texts of m signs are shorter than n -/
def shN (m : Nat) : Nat → Nat
  | 0 => 0
  | n + 1 => shN m n + m ^ n
theorem pow_le_8 {m n : Nat} (hm : m ≤ 8) (hn : n ≤ 7) : m ^ n ≤ 2097152 := by
  have h1 : m ^ n ≤ 8 ^ n := Nat.pow_le_pow_left hm n
  have h2 : (8 : Nat) ^ n ≤ 8 ^ 7 := Nat.pow_le_pow_right (by omega) hn
  have h3 : (8 : Nat) ^ 7 = 2097152 := by decide
  omega
theorem shN_le {m : Nat} (hm : m ≤ 8) : ∀ n, n ≤ 7 → shN m n ≤ n * 2097152
  | 0, _ => by simp [shN]
  | n + 1, h => by
    have h1 := shN_le hm n (by omega)
    have h2 := pow_le_8 hm (show n ≤ 7 by omega)
    rw [shN]; omega

set_option maxRecDepth 100000 in
theorem shorter_any (a : ByteArray) (n : Nat) (hn : n ≤ 7) (ha : a.size ≤ 8) (w : World) :
    Calls Tryz.prog 41 #[.string a, .int .i64 n] w fun e w' => e = .returned (.int .i64 (shN a.size n)) ∧ w = w' := by
  go_enter Tryz.func41, Tryz.ntmps41
  go_wp2
  go_loop [5, 6, 8] (fun o m i => ∃ k O M : Nat, k ≤ n ∧ i = .int .i64 k ∧ o = .int .i64 O ∧ m = .int .i64 M ∧ O = shN a.size k ∧ M = a.size ^ k) (fun _ _ i => n - (intOf i).toNat)
  case atStart => exact ⟨0, 0, 1, by omega, rfl, rfl, rfl, rfl, rfl⟩
  case round =>
    obtain ⟨k, O, M, hk, rfl, rfl, rfl, hO, hM⟩ := hrel
    have hOb : O ≤ 20000000 := by have := shN_le ha k (by omega); omega
    have hMb : M ≤ 2097152 := by have := pow_le_8 ha (show k ≤ 7 by omega); omega
    have hp : M * a.size ≤ 2097152 * 8 := Nat.mul_le_mul hMb ha
    have hp1 : (0 : Int) ≤ (M : Int) * (a.size : Int) := by rw [← Int.natCast_mul]; omega
    have hp2 : (M : Int) * (a.size : Int) ≤ 16777216 := by rw [← Int.natCast_mul]; omega
    have HO := Lib.hid hO
    have HM := Lib.hid hM
    clear hO hM hp
    by_cases hkn : k < n
    · go_wp2
      go_round
      case rel => exact ⟨k + 1, O + M, M * a.size, by omega, by go_num, by go_num, by go_num, by rw [HO.out, HM.out]; rfl, by rw [HM.out]; rfl⟩
      case measure => simp [intOf]; omega
    · obtain rfl : k = n := by omega
      go_wp2
      go_ret
      exact ⟨ret_int (by rw [HO.out]), rfl⟩
theorem index_mem {l : List UInt8} {c : UInt8} : 0 ≤ Lib.indexByte l c ↔ c ∈ l := by
  induction l with
  | nil => simp [Lib.indexByte]
  | cons b l ih =>
    unfold Lib.indexByte
    have hg := Lib.indexByte_ge l c
    by_cases hbc : b = c
    · subst hbc; simp
    · have hbc' : (b == c) = false := by simpa using hbc
      rw [hbc', if_neg (by decide)]
      split
      · rename_i h1
        have h1' : Lib.indexByte l c = -1 := by simpa using h1
        have h2 : ¬ c ∈ l := fun h => by have := ih.2 h; omega
        simp [h2, Ne.symm hbc]
      · rename_i h1
        have h1' : ¬ Lib.indexByte l c = -1 := by simpa using h1
        have h2 : c ∈ l := ih.1 (by omega)
        simp [h2]; omega
end Go.Proofs.YtndhbdbfjkmloaaGreatDoor
namespace Go.Proofs.YtndhbdbfjkmloaaGreatDoor
open Go.RowKit

/-- block g is just these cells, none of them frozen (a mark may lie behind them) -/
def BlkZ (w : World) (g : Nat) (t : TypeId) (cs : Array Value) : Prop := ∃ lo hi, w.heap[g]? = some (.cells cs t (lo, hi)) ∧ (cs.size ≤ lo ∨ hi ≤ lo)
section
variable {w w' : World} {g : Nat} {t : TypeId} {cs : Array Value}
theorem BlkZ.of (h : Blk w g t cs) : BlkZ w g t cs := ⟨0, 0, h, .inr (Nat.le_refl _)⟩
theorem BlkZ.lt (h : BlkZ w g t cs) : g < w.heap.size := by
  obtain ⟨lo, hi, h, _⟩ := h
  exact (Array.getElem?_eq_some_iff.1 h).1
theorem BlkZ.cell (h : BlkZ w g t cs) (i : Nat) : w.cell? ⟨g, i, none⟩ = cs[i]? := by
  obtain ⟨lo, hi, h, _⟩ := h
  exact cell_of_row w g i cs t (lo, hi) h
theorem BlkZ.frozen (h : BlkZ w g t cs) {i : Nat} (hi : i < cs.size) : w.frozen? ⟨g, i, none⟩ = false := by
  obtain ⟨lo, hi', h, h'⟩ := h
  simp only [World.frozen?, h]
  rcases h' with h' | h'
  · have : ¬ lo ≤ i := by omega
    simp [this]
  · by_cases hlo : lo ≤ i
    · have : ¬ i < hi' := by omega
      simp [this]
    · simp [hlo]
theorem BlkZ.drewN (h : BlkZ w g t cs) (n : Nat) : BlkZ (w.drewN n) g t cs := h
theorem BlkZ.drew (h : BlkZ w g t cs) : BlkZ w.drew g t cs := h
theorem BlkZ.below {B : Nat} (h : BlkZ w g t cs) (hb : Below B w w') (hg : g < B) : BlkZ w' g t cs := by
  obtain ⟨lo, hi, h, h'⟩ := h
  exact ⟨lo, hi, (hb.block g hg).trans h, h'⟩
theorem BlkZ.alloc (h : BlkZ w g t cs) (o : Obj) : BlkZ (w.alloc o) g t cs := by
  have hlt := h.lt
  obtain ⟨lo, hi, h, h'⟩ := h
  exact ⟨lo, hi, (Below.heap_alloc w o g hlt).trans h, h'⟩
theorem BlkZ.set_ (h : BlkZ w g t cs) (i : Nat) (u : Value) : BlkZ (w.setCell ⟨g, i, none⟩ u) g t (cs.setIfInBounds i u) := by
  obtain ⟨lo, hi, h, h'⟩ := h
  refine ⟨lo, hi, ?_, by simpa using h'⟩
  simp [World.setCell, Array.getElem?_modify, h]
theorem BlkZ.far (h : BlkZ w g t cs) {p : Addr} (hp : g ≠ p.block) (u : Value) : BlkZ (w.setCell p u) g t cs := by
  obtain ⟨lo, hi, h, h'⟩ := h
  exact ⟨lo, hi, (Below.heap_setCell w p u g hp).trans h, h'⟩
end

/-- cells of bytes -/
def u8s (l : List UInt8) : List Value := l.map fun b => Value.int .u8 b.toNat
theorem u8s_length (l : List UInt8) : (u8s l).length = l.length := by simp [u8s]
theorem u8s_append (a b : List UInt8) : u8s (a ++ b) = u8s a ++ u8s b := by simp [u8s]
theorem u8s_get {l : List UInt8} {i : Nat} {b : UInt8} (h : l[i]? = some b) : (u8s l)[i]? = some (.int .u8 b.toNat) := by simp [u8s, h]
/-- string(b) of bytes that are known -/
theorem string_of {P : Program} {w : World} {src dst e : TypeId} {g n c : Nat} {cs : Array Value} {t : TypeId} {l : List UInt8} (hs : P.underlying src = some (.slice e)) (he : P.underlying e = some (.int .u8)) (hd : P.underlying dst = some .string)
    (h : BlkZ w g t cs) (hl : l.length = n) (ht : cs.toList.take n = u8s l) : (convert src dst (.slice (some ⟨g, 0, none⟩) n c)).run P w = .ok (.string ⟨l.toArray⟩) w := by
  subst hl
  refine run_convert_bytes_back w src dst e ⟨g, 0, none⟩ c l hs he hd fun j hj => ?_
  have hadd : (⟨g, 0, none⟩ : Addr).add j = ⟨g, j, none⟩ := by unfold Addr.add; split <;> simp_all
  rw [hadd, h.cell j, ← Array.getElem?_toList]
  have h1 : (cs.toList.take l.length)[j]? = (u8s l)[j]? := by rw [ht]
  rw [List.getElem?_take, if_pos hj] at h1
  rw [h1, u8s_get (List.getElem?_eq_getElem hj)]
end Go.Proofs.YtndhbdbfjkmloaaGreatDoor
namespace Go.Proofs.YtndhbdbfjkmloaaGreatDoor
open Go.RowKit

def hexs : ByteArray := ⟨#[48, 49, 50, 51, 52, 53, 54, 55, 56, 57, 97, 98, 99, 100, 101, 102]⟩
theorem slice_str (s : ByteArray) (k k' : IntKind) (q r : Nat) (i j : Int) (hi : i = q) (hj : j = r) (h1 : q ≤ r) (h2 : r ≤ s.size) (w : World) :
    (Instr.slice 9 (.string s) (some (.int k i)) (some (.int k' j)) none).run Tryz.prog w = .ok (.string (s.extract q r)) w := by
  subst hi hj
  have hu := Tryz.underlying9
  simp [Instr.slice, run_underlying hu, Instr.sliceBounds, go_sem, h1, h2]

def signs (cls : Bool) : ByteArray := if cls then ⟨#[91, 93, 45, 94, 92]⟩ else ⟨#[39, 92]⟩
def hexd (n : Nat) : UInt8 := hexs.data.toList.getD n 0
/-- a byte as text -/
def enc (cls : Bool) (n : Nat) : List UInt8 :=
  if n = 10 then [92, 110] else if n = 9 then [92, 116] else if n < 32 ∨ (n = 32 ∧ cls = true) ∨ 127 ≤ n then [92, 120, hexd (n / 16), hexd (n % 16)]
  else if UInt8.ofNat n ∈ (signs cls).data.toList then [92, UInt8.ofNat n] else [UInt8.ofNat n]

theorem and15 (n : Nat) (h : n < 256) : bits .and .u8 (n : Int) 15 = ((n % 16 : Nat) : Int) := by
  have h' : ∀ b : Fin 256, bits .and .u8 ((b : Nat) : Int) 15 = (((b : Nat) % 16 : Nat) : Int) := by decide +kernel
  exact h' ⟨n, h⟩

set_option maxRecDepth 100000 in
theorem one_any (cls : Bool) (n : Nat) (hn : n < 256) (w : World) :
    Calls Tryz.prog 29 #[.int .u8 n, .string (signs cls)] w fun e w' => e = .returned (.string ⟨(enc cls n).toArray⟩) ∧ Below w.heap.size w w' := by
  by_cases h10 : n = 10
  · subst h10
    go_enter Tryz.func29, Tryz.ntmps29
    go_wp2
    go_ret
    exact ⟨rfl, Below.refl _ _⟩
  by_cases h9 : n = 9
  · subst h9
    go_enter Tryz.func29, Tryz.ntmps29
    go_wp2
    go_ret
    exact ⟨rfl, Below.refl _ _⟩
  have b10 : ((n : Int) == 10) = false := by rw [beq_eq_false_iff_ne]; omega
  have b9 : ((n : Int) == 9) = false := by rw [beq_eq_false_iff_ne]; omega
  obtain ⟨q, r, hq, hr, hq16, hr16, hqn, hrn⟩ : ∃ q r : Nat, (n : Int) / 16 = q ∧ bits .and .u8 (n : Int) 15 = r ∧ q < 16 ∧ r < 16 ∧ q = n / 16 ∧ r = n % 16 :=
    ⟨n / 16, n % 16, by omega, and15 n hn, by omega, by omega, rfl, rfl⟩
  by_cases hx : n < 32 ∨ (n = 32 ∧ cls = true) ∨ 127 ≤ n
  · have hfin : (⟨#[92, 120]⟩ : ByteArray) ++ hexs.extract q (q + 1) ++ hexs.extract r (r + 1) = ⟨(enc cls n).toArray⟩ := by
      have h1 : enc cls n = [92, 120, hexd q, hexd r] := by unfold enc; rw [if_neg h10, if_neg h9, if_pos hx, hqn, hrn]
      rw [h1]
      have h2 : ∀ q r : Fin 16, (⟨#[92, 120]⟩ : ByteArray) ++ hexs.extract q.val (q.val + 1) ++ hexs.extract r.val (r.val + 1) = ⟨[92, 120, hexd q.val, hexd r.val].toArray⟩ := by decide +kernel
      exact h2 ⟨q, hq16⟩ ⟨r, hr16⟩
    have HFIN := Lib.hid hfin
    have h10' := Lib.hid h10
    have h9' := Lib.hid h9
    clear hfin hqn hrn h10 h9
    have w1 : IntKind.u8.wrap ((q : Int) + 1) = (q : Int) + 1 := by rw [IntKind.wrap_u8']; omega
    have w2 : IntKind.u8.wrap ((r : Int) + 1) = (r : Int) + 1 := by rw [IntKind.wrap_u8']; omega
    have s1 := slice_str (⟨#[48, 49, 50, 51, 52, 53, 54, 55, 56, 57, 97, 98, 99, 100, 101, 102]⟩ : ByteArray) .u8 .u8 q (q + 1) (q : Int) ((q : Int) + 1) rfl (by omega) (by omega) (by show q + 1 ≤ 16; omega)
    have s2 := slice_str (⟨#[48, 49, 50, 51, 52, 53, 54, 55, 56, 57, 97, 98, 99, 100, 101, 102]⟩ : ByteArray) .u8 .u8 r (r + 1) (r : Int) ((r : Int) + 1) rfl (by omega) (by omega) (by show r + 1 ≤ 16; omega)
    have q0 : (0 : Int) ≤ (q : Int) := by omega
    have r0 : (0 : Int) ≤ (r : Int) := by omega
    have q1 : (q : Int) + 1 ≤ 16 := by omega
    have r1 : (r : Int) + 1 ≤ 16 := by omega
    rcases (show n < 32 ∨ (n = 32 ∧ cls = true) ∨ 127 ≤ n from hx) with h | ⟨rfl, rfl⟩ | h
    · have hne : ((n : Int) != 32) = true := by rw [bne_iff_ne]; omega
      clear hx
      go_enter Tryz.func29, Tryz.ntmps29
      go_wp2
      go_quiet (fail)
      go_wp2
      go_ret
      exact ⟨congrArg (fun x => Ending.returned (.string x)) HFIN.out, below_drewN (Below.refl _ _) _⟩
    · clear hx
      have es : signs true = ⟨#[91, 93, 45, 94, 92]⟩ := rfl
      have hsg : ((⟨#[91, 93, 45, 94, 92]⟩ : ByteArray).toList == (⟨#[39, 92]⟩ : ByteArray).toList) = false := by decide +kernel
      have hsg' : ((⟨#[91, 93, 45, 94, 92]⟩ : ByteArray).toList != (⟨#[39, 92]⟩ : ByteArray).toList) = true := by decide +kernel
      rw [es]
      clear es
      go_enter Tryz.func29, Tryz.ntmps29
      go_wp2
      go_quiet (fail)
      go_wp2
      go_ret
      exact ⟨congrArg (fun x => Ending.returned (.string x)) (by decide +kernel), below_drewN (Below.refl _ _) _⟩
    · clear hx
      have hne : ((n : Int) != 32) = true := by rw [bne_iff_ne]; omega
      go_enter Tryz.func29, Tryz.ntmps29
      go_wp2
      go_quiet (fail)
      go_wp2
      go_ret
      exact ⟨congrArg (fun x => Ending.returned (.string x)) HFIN.out, below_drewN (Below.refl _ _) _⟩
  · have hm := index_mem (l := (signs cls).data.toList) (c := UInt8.ofNat n)
    have hfin : enc cls n = if UInt8.ofNat n ∈ (signs cls).data.toList then [92, UInt8.ofNat n] else [UInt8.ofNat n] := by
      unfold enc; rw [if_neg h10, if_neg h9, if_neg hx]
    have hnt : (UInt8.ofNat n).toNat = n := by simp; omega
    have hconv : (convert 106 9 (.slice (some ⟨w.heap.size, 0, none⟩) 1 1)).run Tryz.prog (w.alloc (.cells #[.int .u8 (n : Int)] 5)) = .ok (.string ⟨#[UInt8.ofNat n]⟩) (w.alloc (.cells #[.int .u8 (n : Int)] 5)) :=
      string_of (l := [UInt8.ofNat n]) Tryz.underlying106 Tryz.underlying5 Tryz.underlying9 (BlkZ.of (blk_at rfl)) rfl (by simp [u8s, hnt])
    have hto : ((n : Int)).toNat.toUInt8 = UInt8.ofNat n := by simp
    have HM := Lib.hid hm
    have HFIN := Lib.hid hfin
    have HTO := Lib.hid hto
    have hcases : (n = 32 ∧ cls = false) ∨ (32 < n ∧ n < 127) := by
      cases cls <;> simp at hx ⊢ <;> omega
    clear hm hfin hq hr hq16 hr16 hqn hrn hnt hto h10 h9 hx
    rcases hcases with ⟨rfl, rfl⟩ | ⟨hlo, hhi⟩
    · have es : signs false = ⟨#[39, 92]⟩ := rfl
      rw [es]
      clear es
      have hsg : ((⟨#[39, 92]⟩ : ByteArray).toList == (⟨#[39, 92]⟩ : ByteArray).toList) = true := by decide +kernel
      have hsg' : ((⟨#[39, 92]⟩ : ByteArray).toList != (⟨#[39, 92]⟩ : ByteArray).toList) = false := by decide +kernel
      have hix : Lib.indexByte (⟨#[39, 92]⟩ : ByteArray).data.toList ((32 : Int).toNat.toUInt8) = -1 := by decide +kernel
      have HIX := Lib.hid hix
      have hconv' : (convert 106 9 (.slice (some ⟨w.heap.size, 0, none⟩) 1 1)).run Tryz.prog (w.alloc (.cells #[.int .u8 32] 5)) = .ok (.string ⟨#[32]⟩) (w.alloc (.cells #[.int .u8 32] 5)) := hconv
      clear hix hconv
      go_enter Tryz.func29, Tryz.ntmps29
      go_wp2_with (go_at_call 45; refine (indexByte_any _ 32 _).mono ?_; rw [HIX.out]; rintro e w' ⟨rfl, rfl⟩)
      go_ret
      exact ⟨rfl, (by repeat (first | exact Below.refl _ _ | assumption | refine Below.drew ?_ | refine below_drewN ?_ _ | refine Below.alloc ?_ (by first | omega | (simp; omega) | simp) _ | refine Below.setCell ?_ (by first | omega | (simp; omega) | simp) _))⟩
    · have hn32 : ¬ n ≤ 32 := by omega
      by_cases hin : UInt8.ofNat n ∈ (signs cls).data.toList
      · have hge : 0 ≤ Lib.indexByte (signs cls).data.toList (UInt8.ofNat n) := HM.out.2 hin
        have hf : Hid (enc cls n = [92, UInt8.ofNat n]) := by show _ = _; rw [HFIN.out, if_pos hin]
        clear hin
        go_enter Tryz.func29, Tryz.ntmps29
        go_wp2_with (go_at_call 45; refine (indexByte_any _ _ _).mono ?_; rw [HTO.out]; rintro e w' ⟨rfl, rfl⟩)
        go_ret
        exact ⟨by rw [hf.out]; rfl, (by repeat (first | exact Below.refl _ _ | assumption | refine Below.drew ?_ | refine below_drewN ?_ _ | refine Below.alloc ?_ (by first | omega | (simp; omega) | simp) _ | refine Below.setCell ?_ (by first | omega | (simp; omega) | simp) _))⟩
      · have hlt : ¬ 0 ≤ Lib.indexByte (signs cls).data.toList (UInt8.ofNat n) := fun h => hin (HM.out.1 h)
        have hf : Hid (enc cls n = [UInt8.ofNat n]) := by show _ = _; rw [HFIN.out, if_neg hin]
        clear hin
        go_enter Tryz.func29, Tryz.ntmps29
        go_wp2_with (go_at_call 45; refine (indexByte_any _ _ _).mono ?_; rw [HTO.out]; rintro e w' ⟨rfl, rfl⟩)
        go_ret
        exact ⟨by rw [hf.out]; rfl, (by repeat (first | exact Below.refl _ _ | assumption | refine Below.drew ?_ | refine below_drewN ?_ _ | refine Below.alloc ?_ (by first | omega | (simp; omega) | simp) _ | refine Below.setCell ?_ (by first | omega | (simp; omega) | simp) _))⟩
end Go.Proofs.YtndhbdbfjkmloaaGreatDoor
namespace Go.Proofs.YtndhbdbfjkmloaaGreatDoor
open Go.RowKit

def strsW (L : List ByteArray) : List Value := L.map Value.string
theorem strsW_len (L : List ByteArray) : (strsW L).length = L.length := by simp [strsW]
theorem str_infoW : (Tryz.prog.info? 9).map (fun i => (i.zero, i.size, i.bytes)) = some (some (.string ByteArray.empty), 1, 16) := by kernel_rfl
theorem new_cellsW (w : World) (t : TypeId) (cs : List Value) : ∀ (j : Nat) (u : Value), cs[j]? = some u → (w.alloc (.cells cs.toArray t)).cell? ((⟨w.heap.size, 0, none⟩ : Addr).add j) = some u := by
  intro j u h
  have hb : Blk (w.alloc (.cells cs.toArray t)) w.heap.size t cs.toArray := blk_at rfl
  have h1 : (⟨w.heap.size, 0, none⟩ : Addr).add j = ⟨w.heap.size, j, none⟩ := by
    cases j with
    | zero => rfl
    | succ j => simp [Addr.add]
  rw [h1, hb.cell]
  simpa using h
theorem reads_strW {w : World} {B n j : Nat} {A : Option Addr} {L : List ByteArray} (h : Reads w B 1 A n (strsW L)) (hj : j < n) : ∃ (ad : Addr) (t : ByteArray), A = some ad ∧ ad.block < B ∧ L[j]? = some t ∧ w.cell? (ad.add j) = some (.string t) := by
  obtain ⟨ad, u, e, hb, hx, hc⟩ := h.at_ hj
  rw [strsW, List.getElem?_map, Option.map_eq_some_iff] at hx
  obtain ⟨t, ht, rfl⟩ := hx
  exact ⟨ad, t, e, hb, ht, hc⟩
theorem own_firstW {w : World} {b : Nat} {t : TypeId} (base : Nat) (hb : Blk w b t #[.string ⟨#[]⟩]) (hg : base ≤ b) : w.ownsRow base t 1 (.slice (some ⟨b, 0, none⟩) 1 1) 1 (strsW [⟨#[]⟩]) :=
  ⟨rfl, .inr ⟨b, 1, #[.string ⟨#[]⟩], rfl, hg, hb, Nat.le_refl _, by unfold maxLen; omega, rfl, rfl⟩⟩
/-- a row of texts: how many, none longer than k -/
structure RowW (w : World) (base : Nat) (V : Option Addr) (c m k : Nat) (L : List ByteArray) : Prop where
  len : L.length = m
  own : w.ownsRow base 9 1 (.slice V m c) m (strsW L)
  short : ∀ x ∈ L, x.size ≤ k
theorem RowW.below {w w' : World} {base : Nat} {V : Option Addr} {c m k : Nat} {L : List ByteArray} (h : RowW w base V c m k L) (hb : Below w.heap.size w w') : RowW w' base V c m k L := ⟨h.len, own_below h.own hb, h.short⟩

set_option maxRecDepth 100000 in
set_option maxHeartbeats 8000000 in
theorem words_any (a : ByteArray) (n : Nat) (h1 : 1 ≤ a.size) (h2 : a.size ≤ 2) (hn : n ≤ 4) (w : World) : Calls Tryz.prog 7 #[.string a, .int .i64 n] w fun e w' =>
    ∃ (ad : Addr) (m c : Nat) (L : List ByteArray), e = .returned (.slice (some ad) m c) ∧ L.length = m ∧ m ≤ 31 ∧ m ≤ c ∧ (∀ x ∈ L, x.size ≤ 4) ∧ Reads w' w'.heap.size 1 (some ad) m (strsW L) ∧ Below w.heap.size w w' := by
  obtain ⟨i0, hi0, hz0, hz1, hz2⟩ := info_parts str_infoW
  have HE : Hid (∀ (V : Option Addr) (m c k : Nat) (L : List ByteArray) (W : World), RowW W w.heap.size V c m k L → k ≤ 4 → 1 ≤ m → m ≤ 31 → Below w.heap.size w W → (∃ (ad : Addr) (m' c' : Nat) (L : List ByteArray), Ending.returned (.slice V m c) = .returned (.slice (some ad) m' c') ∧ L.length = m' ∧ m' ≤ 31 ∧ m' ≤ c' ∧ (∀ x ∈ L, x.size ≤ 4) ∧ Reads W W.heap.size 1 (some ad) m' (strsW L) ∧ Below w.heap.size w W)) := fun V m c k L W hR hk h1 h31 hW => by
    obtain ⟨g, cap, hv, hcap, _⟩ := hR.own.form h1
    simp only [Value.slice.injEq] at hv
    obtain ⟨rfl, -, rfl⟩ := hv
    have hmc : m ≤ c := by
      rcases hR.own.2 with ⟨h0, _⟩ | ⟨g', cap', _, hv', _, _, hnc, _⟩
      · simp at h0
      · simp only [Value.slice.injEq] at hv'
        obtain ⟨_, _, rfl⟩ := hv'
        exact hnc
    exact ⟨_, m, c, L, rfl, hR.len, h31, hmc, fun x hx => Nat.le_trans (hR.short x hx) hk, Reads.of_own hR.own, hW⟩
  go_enter Tryz.func7, Tryz.ntmps7
  go_wp2
  go_loopw [5, 6, 14] (fun o l i wr => ∃ (k no co nl cl : Nat) (Vo Vl : Option Addr) (Lo Ll : List ByteArray), k ≤ n ∧ i = .int .i64 k ∧ o = .slice Vo no co ∧ l = .slice Vl nl cl ∧ 1 ≤ no ∧ no ≤ 31 ∧ 1 ≤ nl ∧ nl ≤ 16 ∧ Hid (no + 1 ≤ 2 ^ (k + 1)) ∧ Hid (nl ≤ 2 ^ k) ∧ Hid (RowW wr w.heap.size Vo co no k Lo) ∧ Hid (RowW wr w.heap.size Vl cl nl k Ll) ∧ Below w.heap.size w wr) (fun _ _ i _ => n - (intOf i).toNat)
  case atStart => exact ⟨0, 1, 1, 1, 1, some ⟨w.heap.size, 0, none⟩, some ⟨w.heap.size + 1, 0, none⟩, [⟨#[]⟩], [⟨#[]⟩], by omega, rfl, rfl, rfl, by omega, by omega, by omega, by omega, (by decide : 1 + 1 ≤ 2 ^ (0 + 1)), (by decide : 1 ≤ 2 ^ 0), ⟨rfl, own_firstW _ ((blk_at rfl).alloc _) (Nat.le_refl _), fun x hx => by rw [List.mem_singleton] at hx; subst hx; exact Nat.le_refl _⟩, ⟨rfl, own_firstW _ (blk_at (by simp)) (by omega), fun x hx => by rw [List.mem_singleton] at hx; subst hx; exact Nat.le_refl _⟩, (by repeat (first | exact Below.refl _ _ | assumption | refine Below.drew ?_ | refine below_drewN ?_ _ | refine Below.alloc ?_ (by first | omega | (simp; omega) | simp) _ | refine Below.setCell ?_ (by first | omega | (simp; omega) | simp) _))⟩
  case round =>
    obtain ⟨k, no, co, nl, cl, Vo, Vl, Lo, Ll, hk, rfl, rfl, rfl, hno1, hno2, hnl1, hnl2, HNO, HNL, HO, HLR, hbr⟩ := hrel
    have hzr := hbr.size
    by_cases hkn : k < n
    · have hki : (k : Int) < (n : Int) := by omega
      have HRL := Lib.hid (Reads.of_own HLR.out.own)
      go_wp2
      go_loopw [7, 18] (fun x i wm => ∃ (j nn cn : Nat) (Vn : Option Addr) (Ln : List ByteArray), j ≤ nl ∧ i = .int .i64 j ∧ x = .slice Vn nn cn ∧ nn ≤ 2 * j ∧ Hid (nn = j * a.size) ∧ Hid (RowW wm wr.heap.size Vn cn nn (k + 1) Ln) ∧ Below wr.heap.size wr wm) (fun _ i _ => nl - (intOf i).toNat)
      case atStart => exact ⟨0, 0, 0, none, [], by omega, rfl, rfl, by omega, (Nat.zero_mul _).symm, ⟨rfl, World.ownsRow_nil _ _ _ _, fun x hx => by cases hx⟩, Below.refl _ _⟩
      case round =>
        rename World => wm
        obtain ⟨j, nn, cn, Vn, Ln, hj, rfl, rfl, hnn, HNN, HN, hbm⟩ := hrel
        have hzm := hbm.size
        by_cases hjl : j < nl
        · obtain ⟨ad, t, rfl, hab, ht, hct⟩ := reads_strW (HRL.out.below hbm) hjl
          have hts := HLR.out.short t (List.mem_of_getElem? ht)
          have hji : (j : Int) < (nl : Int) := by omega
          clear ht
          go_wp2
          go_loopw [7, 24] (fun x i wq => ∃ (b n2 c2 : Nat) (V2 : Option Addr) (L2 : List ByteArray), b ≤ a.size ∧ i = .int .i64 b ∧ x = .slice V2 n2 c2 ∧ n2 = nn + b ∧ Hid (RowW wq wr.heap.size V2 c2 n2 (k + 1) L2) ∧ Below wr.heap.size wr wq) (fun _ i _ => a.size - (intOf i).toNat)
          case atStart => exact ⟨0, nn, cn, Vn, Ln, by omega, rfl, rfl, by omega, HN.out, hbm⟩
          case round =>
            rename World => wq
            obtain ⟨b, n2, c2, V2, L2, hb, rfl, rfl, hn2, HN2, hbq⟩ := hrel
            have hzq := hbq.size
            by_cases hba : b < a.size
            · have hbi : (b : Int) < (a.size : Int) := by omega
              have hbw : IntKind.i64.wrap ((b : Int) + 1) = ((b + 1 : Nat) : Int) := by unfold IntKind.wrap IntKind.signed IntKind.bits; simp; omega
              have hsl : ∀ W, (Instr.slice 9 (.string a) (some (.int .i64 (b : Int))) (some (.int .i64 ((b + 1 : Nat) : Int))) none).run Tryz.prog W = .ok (.string (a.extract b (b + 1))) W := fun W => slice_str a .i64 .i64 b (b + 1) _ _ rfl rfl (by omega) (by omega) W
              have hes : (a.extract b (b + 1)).size = 1 := by rw [ByteArray.size_extract]; omega
              have hts4 : t.size ≤ 4 := by omega
              obtain ⟨b1, hb1⟩ : ∃ b1, b + 1 = b1 := ⟨_, rfl⟩
              rw [hb1] at hbw hsl hes
              generalize a.extract b b1 = X at hsl hes
              have hsum : ¬ 9223372036854775807 < t.size + X.size := by omega
              have hxs : (t ++ X).size ≤ k + 1 := by rw [ByteArray.size_append]; omega
              go_wp2_with (at_builtin; refine wpList_append_own _ rfl _ _ _ rfl wr.heap.size 9 i0 _ 1 16 Tryz.underlying29 hi0 hz0 hz1 hz2 rfl (by decide) _ _ _ rfl (HN2.out.own.alloc _) ⟨wq.heap.size, 0, none⟩ 1 1 [.string (t ++ X)] rfl rfl (new_cellsW wq 9 [.string (t ++ X)]) (by simp [Value.oneCell']) (by unfold maxLen; omega) (by omega) (by simp; omega) ?_; intro v' w6 hown6 hgr6 _; obtain ⟨V6, c6, rfl⟩ := own_form hown6)
              have hw6 : Below wr.heap.size wr w6 := below_app (hbq.alloc hzq _) (HN2.out.own.alloc _) hgr6 (by simp; omega) (Nat.le_refl _)
              have HR6 : Hid (RowW w6 wr.heap.size V6 c6 (n2 + 1) (k + 1) (L2 ++ [t ++ X])) := ⟨by rw [List.length_append, HN2.out.len]; rfl, by rw [strsW, List.map_append]; exact hown6, fun x hx => by
                rcases List.mem_append.1 hx with hx | hx
                · exact HN2.out.short x hx
                · rw [List.mem_singleton.1 hx]; exact hxs⟩
              clear hown6 hgr6
              go_roundw
              case rel => exact ⟨b1, n2 + 1, c6, V6, L2 ++ [t ++ X], by omega, by go_num, by go_num, by omega, HR6, hw6⟩
              case measure => simp [intOf]; omega
            · obtain rfl : b = a.size := by omega
              have HNN2 : Hid (n2 = (j + 1) * a.size) := by show _ = _; rw [hn2, HNN.out, Nat.add_mul, Nat.one_mul]
              have hn22 : n2 ≤ 2 * (j + 1) := by omega
              clear hn2
              go_wp2
              go_roundw
              case rel => exact ⟨j + 1, n2, c2, V2, L2, by omega, by go_num, rfl, hn22, HNN2, HN2, hbq⟩
              case measure => simp [intOf]; omega
        · obtain rfl : j = nl := by omega
          have hnn1 : 1 ≤ nn := by rw [HNN.out]; exact Nat.mul_pos hnl1 h1
          have hp1 : nn ≤ 2 ^ (k + 1) := by
            have := HNL.out
            rw [HNN.out, Nat.pow_succ]
            exact Nat.mul_le_mul this h2
          have hp2 : 2 ^ (k + 1) ≤ 16 := Nat.pow_le_pow_right (n := 2) (by omega) (show k + 1 ≤ 4 by omega)
          have hp3 : no + nn + 1 ≤ 2 ^ (k + 1 + 1) := by have := HNO.out; rw [Nat.pow_succ]; omega
          have hp4 : no + nn ≤ 31 := by have := HNO.out; omega
          have HP1 := Lib.hid hp1
          have HP3 := Lib.hid hp3
          have hnn16 : nn ≤ 16 := by omega
          have HO2 := HO.out.below hbm
          obtain ⟨g, cap, hv, hcap, hglt⟩ := HN.out.own.form hnn1
          simp only [Value.slice.injEq] at hv
          obtain ⟨rfl, -, -⟩ := hv
          have hcells := HN.out.own.cells rfl
          have HCE := Lib.hid hcells
          have hgb : wr.heap.size ≤ g := (HN.out.own.lt g rfl).1
          have HSL : Hid ((strsW Ln).length = nn * 1) := by show _ = _; rw [strsW_len, HN.out.len, Nat.mul_one]
          clear hp1 hp2 hp3 hcells hnn
          go_wp2_with (at_builtin; refine wpList_append_own _ rfl _ _ _ rfl w.heap.size 9 i0 _ 1 16 Tryz.underlying29 hi0 hz0 hz1 hz2 rfl (by decide) _ _ _ rfl HO2.own ⟨g, 0, none⟩ nn cn (strsW Ln) rfl HSL.out HCE.out (fun u hu => by unfold strsW at hu; obtain ⟨x, _, rfl⟩ := List.mem_map.1 hu; rfl) (by unfold maxLen; omega) (by omega) (by omega) ?_; intro v' w6 hown6 hgr6 _; obtain ⟨V6, c6, rfl⟩ := own_form hown6)
          have hne : ∀ q, (Value.slice Vo no co).ownBlock = some q → q < wr.heap.size := fun q hq => (HO.out.own.lt q hq).2
          have hb6 : Below w.heap.size w w6 := below_app (hbr.trans (hbm.mono hzr)) HO2.own hgr6 (by omega) (Nat.le_refl _)
          have hN6 : w6.ownsRow wr.heap.size 9 1 (.slice (some ⟨g, 0, none⟩) nn cn) nn (strsW Ln) := HN.out.own.kept hgr6 (by
            right
            intro e
            have h3 : (Value.slice Vo no co).ownBlock = some g := e.symm
            have := hne g h3
            omega)
          have HNX : Hid (RowW w6 w.heap.size (some ⟨g, 0, none⟩) cn nn (k + 1) Ln) := ⟨HN.out.len, ⟨hN6.1, hN6.2.imp id fun ⟨g', cap', cur, q1, q2, q3⟩ => ⟨g', cap', cur, q1, by omega, q3⟩⟩, HN.out.short⟩
          have HOX : Hid (RowW w6 w.heap.size V6 c6 (no + nn) (k + 1) (Lo ++ Ln)) := ⟨by rw [List.length_append, HO.out.len, HN.out.len], by rw [strsW, List.map_append]; exact hown6, fun x hx => by
            rcases List.mem_append.1 hx with hx | hx
            · exact Nat.le_succ_of_le (HO.out.short x hx)
            · exact HN.out.short x hx⟩
          clear hown6 hgr6 hN6 hne HO2
          go_roundw
          case rel => exact ⟨k + 1, no + nn, c6, nn, cn, V6, some ⟨g, 0, none⟩, Lo ++ Ln, Ln, by omega, by go_num, by go_num, rfl, by omega, hp4, hnn1, hnn16, HP3.out, HP1.out, HOX, HNX, hb6⟩
          case measure => simp [intOf]; omega
    · obtain rfl : k = n := by omega
      have hE := HE.out Vo no co k Lo wr HO.out hn hno1 hno2 hbr
      have HE2 := Lib.hid hE
      clear hE HE
      go_wp2
      go_ret
      exact HE2.out
end Go.Proofs.YtndhbdbfjkmloaaGreatDoor
namespace Go.Proofs.YtndhbdbfjkmloaaGreatDoor
open Go.RowKit

/-- an expression: kind, the four words of its set, its text, its kids -/
inductive Ex where
  | mk (k a b c d : Int) (t : ByteArray) (ks : List Ex)

theorem Ex.ind {P : Ex → Prop} (h : ∀ k a b c d t ks, (∀ e ∈ ks, P e) → P (.mk k a b c d t ks)) (e : Ex) : P e := by
  refine Ex.rec (motive_1 := P) (motive_2 := fun ks => ∀ e ∈ ks, P e) ?_ ?_ ?_ e
  · exact fun k a b c d t ks ih => h k a b c d t ks ih
  · exact fun e he => by cases he
  · intro e es h1 h2 e' he
    rcases List.mem_cons.1 he with rfl | he
    · exact h1
    · exact h2 _ he

/-- the cells of an expression, and that all below it can be read below block B -/
inductive ExIs (w : World) (B : Nat) : Ex → List Value → Prop
  | mk (k a b c d : Int) (t : ByteArray) (ks : List Ex) (A : Option Addr) (cp : Nat) (row : Nat → List Value) :
      t.size ≤ maxLen → ks.length ≤ cp → cp ≤ maxLen → (A = none → cp = 0) → (0 < ks.length → ∃ ad : Addr, A = some ad ∧ ad.block < B) →
      (∀ i e, ks[i]? = some e → ExIs w B e (row i)) →
      (∀ i e ad, ks[i]? = some e → A = some ad → ∀ j u, (row i)[j]? = some u → w.cell? ((ad.add (i * 7)).add j) = some u) →
      ExIs w B (.mk k a b c d t ks) [.int .i64 k, .int .u64 a, .int .u64 b, .int .u64 c, .int .u64 d, .string t, .slice A ks.length cp]

theorem ExIs.keep {w w' : World} {B B' : Nat} {e : Ex} {cs : List Value} (h : ExIs w B e cs) (hB : B ≤ B') (hk : ∀ p : Addr, p.block < B → w'.cell? p = w.cell? p) : ExIs w' B' e cs := by
  induction h with
  | mk k a b c d t ks A cp row ht hl hm hn hb hr hc ih =>
    refine .mk k a b c d t ks A cp row ht hl hm hn (fun h0 => ?_) ih fun i e ad he hA j u hu => ?_
    · obtain ⟨ad, e, h1⟩ := hb h0
      exact ⟨ad, e, Nat.lt_of_lt_of_le h1 hB⟩
    · obtain ⟨ad', e', h1⟩ := hb (by have := getElem?_lt he; omega)
      rw [hA] at e'
      injection e' with e'
      subst e'
      rw [hk _ (by rw [add_block, add_block]; exact h1)]
      exact hc i e ad he hA j u hu
theorem ExIs.on {w w' : World} {B : Nat} {e : Ex} {cs : List Value} (h : ExIs w B e cs) (hb : Below B w w') : ExIs w' B e cs := h.keep (Nat.le_refl _) fun _ => hb.cell
end Go.Proofs.YtndhbdbfjkmloaaGreatDoor
namespace Go.Proofs.YtndhbdbfjkmloaaGreatDoor
open Go.RowKit

/-- a letter or a digit, as a number -/
def isLet (c : Nat) : Bool := decide (97 ≤ c ||| 32) && decide (c ||| 32 ≤ 122)
def isDig (c : Nat) : Bool := decide (48 ≤ c) && decide (c ≤ 57)
def nameAt (l : List UInt8) (i : Nat) : Bool := isLet (bt l i) || (i != 0 && isDig (bt l i))
def nameB (l : List UInt8) : Bool := decide (l ≠ []) && decide (l.length ≤ 8) && (List.range l.length).all (nameAt l)

theorem or32 (c : Nat) (h : c < 256) : bits .or .u8 (c : Int) 32 = ((c ||| 32 : Nat) : Int) := by
  have h' : ∀ n : Fin 256, bits .or .u8 ((n : Nat) : Int) 32 = (((n : Nat) ||| 32 : Nat) : Int) := by decide +kernel
  exact h' ⟨c, h⟩
theorem name_no {l : List UInt8} {k : Nat} (hk : k < l.length) (h : nameAt l k = false) : nameB l = false := by
  unfold nameB
  have : (List.range l.length).all (nameAt l) = false := by
    rw [List.all_eq_false]
    exact ⟨k, by simpa using hk, by simp [h]⟩
  rw [this, Bool.and_false]
theorem name_yes {l : List UInt8} (h0 : l ≠ []) (h8 : l.length ≤ 8) (h : ∀ i, i < l.length → nameAt l i = true) : nameB l = true := by
  unfold nameB
  simp [h0, h8]
  exact h

theorem name_any (s : ByteArray) (w : World) : Calls Tryz.prog 52 #[.string s] w fun e w' => e = .returned (.bool (nameB s.data.toList)) ∧ w = w' := by
  have HL := Lib.hid (size_list s)
  by_cases h0 : s.size = 0
  · have he : s.toList = [] := by rw [ByteArray.toList_eq]; exact List.eq_nil_of_length_eq_zero (by rw [HL.out]; exact h0)
    have he' : (!s.toList.isEmpty) = false := by rw [he]; rfl
    have HF : Hid (nameB s.data.toList = false) := by
      show _ = _
      rw [List.eq_nil_of_length_eq_zero (HL.out.trans h0)]; rfl
    go_enter Tryz.func52, Tryz.ntmps52
    go_wp2
    go_ret
    exact ⟨ret_bool HF.out.symm, rfl⟩
  have hne : s.data.toList ≠ [] := fun h => h0 (by rw [← HL.out, h]; rfl)
  have he : s.toList.isEmpty = false := by rw [ByteArray.toList_eq]; cases h : s.data.toList with
    | nil => exact absurd h hne
    | cons _ _ => rfl
  have HNE := Lib.hid hne
  clear hne
  by_cases h8 : 8 < s.size
  · have HF : Hid (nameB s.data.toList = false) := by
      show _ = _
      unfold nameB; rw [HL.out]; simp; omega
    go_enter Tryz.func52, Tryz.ntmps52
    go_wp2
    go_ret
    exact ⟨ret_bool HF.out.symm, rfl⟩
  go_enter Tryz.func52, Tryz.ntmps52
  go_wp2
  go_loop [3, 4, 14] (fun _ _ i => ∃ k : Nat, k ≤ s.size ∧ i = .int .i64 k ∧ ∀ j, j < k → nameAt s.data.toList j = true) (fun _ _ i => s.size - (intOf i).toNat)
  case atStart => exact ⟨0, by omega, rfl, fun j h => by omega⟩
  case round =>
    obtain ⟨k, hk, rfl, hr⟩ := hrel
    have HR := Lib.hid hr
    clear hr
    by_cases hkn : k < s.size
    · have hb := bt_of hkn
      have hor := or32 (bt s.data.toList k) (bt_lt _ _)
      have HA : Hid (nameAt s.data.toList k = (isLet (bt s.data.toList k) || (k != 0 && isDig (bt s.data.toList k)))) := by exact rfl
      generalize hc : bt s.data.toList k = c at hb hor HA
      generalize hd : c ||| 32 = d at hor
      have HLt : Hid (isLet c = (decide (97 ≤ d) && decide (d ≤ 122))) := by show _ = _; rw [← hd]; rfl
      clear hc hd
      have hcase : nameAt s.data.toList k = true ∨ nameAt s.data.toList k = false := by cases nameAt s.data.toList k <;> simp
      by_cases h1 : 97 ≤ d
      · have i1 : ((97 : Int) ≤ (d : Int)) := by omega
        by_cases h2 : d ≤ 122
        · have i2 : ((d : Int) ≤ 122) := by omega
          have HY : Hid (nameAt s.data.toList k = true) := by show _ = _; rw [HA.out, HLt.out]; simp [h1, h2]
          go_wp2
          go_round
          case rel => exact ⟨k + 1, by omega, by go_num, fun j hj => by
            by_cases hjk : j < k
            · exact HR.out j hjk
            · obtain rfl : j = k := by omega
              exact HY.out⟩
          case measure => simp [intOf]; omega
        · have i2 : (((d : Int) ≤ 122)) = False := by simp; omega
          have HN : Hid (isLet c = false) := by show _ = _; rw [HLt.out]; simp; omega
          by_cases hk0 : k = 0
          · subst hk0
            have HY : Hid (nameB s.data.toList = false) := name_no (k := 0) (by rw [HL.out]; omega) (by rw [HA.out, HN.out]; rfl)
            go_wp2
            go_ret
            exact ⟨ret_bool HY.out.symm, rfl⟩
          have bk0 : (((k : Nat) : Int) == 0) = false := by rw [beq_eq_false_iff_ne]; omega
          have bk1 : (k != 0) = true := by rw [bne_iff_ne]; exact hk0
          by_cases h3 : c < 48
          · have i3 : ((c : Int) < 48) := by omega
            have HY : Hid (nameB s.data.toList = false) := name_no (k := k) (by rw [HL.out]; omega) (by rw [HA.out, HN.out]; simp [isDig]; omega)
            go_wp2
            go_ret
            exact ⟨ret_bool HY.out.symm, rfl⟩
          · have i3 : ((c : Int) < 48) = False := by simp; omega
            by_cases h4 : 57 < c
            · have i4 : ((57 : Int) < (c : Int)) := by omega
              have HY : Hid (nameB s.data.toList = false) := name_no (k := k) (by rw [HL.out]; omega) (by rw [HA.out, HN.out]; simp [isDig]; omega)
              go_wp2
              go_ret
              exact ⟨ret_bool HY.out.symm, rfl⟩
            · have i4 : ((57 : Int) < (c : Int)) = False := by simp; omega
              have HY : Hid (nameAt s.data.toList k = true) := by show _ = _; rw [HA.out, HN.out]; simp [isDig, bk1]; omega
              go_wp2
              go_round
              case rel => exact ⟨k + 1, by omega, by go_num, fun j hj => by
                by_cases hjk : j < k
                · exact HR.out j hjk
                · obtain rfl : j = k := by omega
                  exact HY.out⟩
              case measure => simp [intOf]; omega
      · have i1 : (((97 : Int) ≤ (d : Int))) = False := by simp; omega
        have HN : Hid (isLet c = false) := by show _ = _; rw [HLt.out]; simp; omega
        by_cases hk0 : k = 0
        · subst hk0
          have HY : Hid (nameB s.data.toList = false) := name_no (k := 0) (by rw [HL.out]; omega) (by rw [HA.out, HN.out]; rfl)
          go_wp2
          go_ret
          exact ⟨ret_bool HY.out.symm, rfl⟩
        have bk0 : (((k : Nat) : Int) == 0) = false := by rw [beq_eq_false_iff_ne]; omega
        have bk1 : (k != 0) = true := by rw [bne_iff_ne]; exact hk0
        by_cases h3 : c < 48
        · have i3 : ((c : Int) < 48) := by omega
          have HY : Hid (nameB s.data.toList = false) := name_no (k := k) (by rw [HL.out]; omega) (by rw [HA.out, HN.out]; simp [isDig]; omega)
          go_wp2
          go_ret
          exact ⟨ret_bool HY.out.symm, rfl⟩
        · have i3 : ((c : Int) < 48) = False := by simp; omega
          by_cases h4 : 57 < c
          · have i4 : ((57 : Int) < (c : Int)) := by omega
            have HY : Hid (nameB s.data.toList = false) := name_no (k := k) (by rw [HL.out]; omega) (by rw [HA.out, HN.out]; simp [isDig]; omega)
            go_wp2
            go_ret
            exact ⟨ret_bool HY.out.symm, rfl⟩
          · have i4 : ((57 : Int) < (c : Int)) = False := by simp; omega
            have HY : Hid (nameAt s.data.toList k = true) := by show _ = _; rw [HA.out, HN.out]; simp [isDig, bk1]; omega
            go_wp2
            go_round
            case rel => exact ⟨k + 1, by omega, by go_num, fun j hj => by
              by_cases hjk : j < k
              · exact HR.out j hjk
              · obtain rfl : j = k := by omega
                exact HY.out⟩
            case measure => simp [intOf]; omega
    · obtain rfl : k = s.size := by omega
      go_wp2
      go_ret
      exact ⟨ret_bool (name_yes HNE.out (by rw [HL.out]; omega) (by rw [HL.out]; exact HR.out)).symm, rfl⟩
end Go.Proofs.YtndhbdbfjkmloaaGreatDoor
namespace Go.Proofs.YtndhbdbfjkmloaaGreatDoor
open Go.RowKit

theorem u64_info : (Tryz.prog.info? 45).map (fun i => (i.zero, i.size, i.bytes)) = some (some (.int .u64 0), 1, 8) := by kernel_rfl
theorem u64_cells : Tryz.prog.cellsOf 45 = 1 := by kernel_rfl
theorem part_u64 (w : World) (cs : Array Value) (i : Nat) (x : Int) (h : cs[i]? = some (.int .u64 x)) : (part 45 cs i).run Tryz.prog w = .ok (.int .u64 x) w := by
  have hu := Tryz.underlying45
  simp [part, isAgg, run_underlying hu, h]
theorem run_eq_u64 (w : World) (d : Nat) (a b : Int) : (Op.equalIn (d + 1) 45 (.int .u64 a) (.int .u64 b)).run Tryz.prog w = .ok (a == b) w := run_equalIn_int w d _ .u64 .u64 a b Tryz.underlying45
/-- sets are compared word by word -/
theorem run_same_set (w : World) (a b c d a' b' c' d' : Int) : (Op.equalIn 10000 63 (.agg #[.int .u64 a, .int .u64 b, .int .u64 c, .int .u64 d]) (.agg #[.int .u64 a', .int .u64 b', .int .u64 c', .int .u64 d'])).run Tryz.prog w = .ok (a == a' && (b == b' && (c == c' && d == d'))) w := by
  obtain ⟨i, hi, _⟩ := info_parts u64_info
  show (Op.equalIn (9999 + 1) 63 _ _).run Tryz.prog w = _
  rw [run_equalIn_array w 9999 _ _ Tryz.underlying63 hi, u64_cells]
  show (Op.eqItems (9998 + 1) 45 1 _ _ [0, 1, 2, 3]).run _ _ = _
  generalize 9998 = n
  simp only [Op.eqItems, Sem.run_bind, part_u64 w #[.int .u64 a, .int .u64 b, .int .u64 c, .int .u64 d] (0 * 1) a rfl, part_u64 w #[.int .u64 a, .int .u64 b, .int .u64 c, .int .u64 d] (1 * 1) b rfl, part_u64 w #[.int .u64 a, .int .u64 b, .int .u64 c, .int .u64 d] (2 * 1) c rfl, part_u64 w #[.int .u64 a, .int .u64 b, .int .u64 c, .int .u64 d] (3 * 1) d rfl,
    part_u64 w #[.int .u64 a', .int .u64 b', .int .u64 c', .int .u64 d'] (0 * 1) a' rfl, part_u64 w #[.int .u64 a', .int .u64 b', .int .u64 c', .int .u64 d'] (1 * 1) b' rfl, part_u64 w #[.int .u64 a', .int .u64 b', .int .u64 c', .int .u64 d'] (2 * 1) c' rfl, part_u64 w #[.int .u64 a', .int .u64 b', .int .u64 c', .int .u64 d'] (3 * 1) d' rfl, run_eq_u64, Result.andThen_ok, Sem.run_ite, Sem.run_pure]
  cases a == a' <;> cases b == b' <;> cases c == c' <;> cases d == d' <;> simp
end Go.Proofs.YtndhbdbfjkmloaaGreatDoor
