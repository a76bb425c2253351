/- How many bits a word has: plain. Words of memory for this seat's proofs: a run of cells that can be read, a block that is known whole, ints, and what a world keeps. What is in a set, the first that is, and how many: plain. What math/bits answers: OnesCount64, TrailingZeros64. What set.Count answers. The machine that parses: plain. -/
import Derived.Test.YtkmcnekjimobhaaRows
import Derived.WalkKit
import Derived.LoopTactic
import Derived.Below
import Derived.Laws.OwnMore
import Derived.Deep.AppendLies
import Derived.Deep.Draws
import Derived.Laws.Rows
import Derived.Maps.AppendAt
import Derived.RegionTactic
import Derived.OwnWalk
import Derived.Lib.Hide
import Derived.Test.YtkmcnekjimobhaaProg
import Derived.BigQuiet
import Derived.Deep.QuietTactic
import Derived.Lib.Bytealg
import Derived.Lib.IndexLaws
import Derived.Laws.Bits128
import Derived.Lib.TrailingZeros
namespace Go.Proofs.Ytkmcnekjimobhaa

/-- the bits among the lowest k -/
def pcN : Nat → Nat → Nat
  | 0, _ => 0
  | k + 1, x => x % 2 + pcN k (x / 2)
theorem pcN_le : ∀ k x, pcN k x ≤ k
  | 0, _ => Nat.le_refl _
  | k + 1, x => by
    have := pcN_le k (x / 2)
    rw [pcN]
    omega
theorem and_split (n a b : Nat) : a &&& b = (a % 2 ^ n &&& b % 2 ^ n) + 2 ^ n * (a / 2 ^ n &&& b / 2 ^ n) := by
  have h := Nat.mod_add_div (a &&& b) (2 ^ n)
  rw [Nat.and_mod_two_pow, Nat.and_div_two_pow] at h
  exact h.symm
theorem or_split (n a b : Nat) : a ||| b = (a % 2 ^ n ||| b % 2 ^ n) + 2 ^ n * (a / 2 ^ n ||| b / 2 ^ n) := by
  have h := Nat.mod_add_div (a ||| b) (2 ^ n)
  rw [Nat.or_mod_two_pow, Nat.or_div_two_pow] at h
  exact h.symm
theorem pcN_two : ∀ (k a b : Nat), pcN k (a ||| b) + pcN k (a &&& b) = pcN k a + pcN k b
  | 0, _, _ => rfl
  | k + 1, a, b => by
    have ih := pcN_two k (a / 2) (b / 2)
    have h1 := or_split 1 a b
    have h2 := and_split 1 a b
    simp only [Nat.pow_one] at h1 h2
    have ha : a % 2 = 0 ∨ a % 2 = 1 := by omega
    have hb : b % 2 = 0 ∨ b % 2 = 1 := by omega
    simp only [pcN]
    rcases ha with ha | ha <;> rcases hb with hb | hb <;> (rw [ha, hb] at h1 h2; simp at h1 h2; rw [show (a ||| b) / 2 = a / 2 ||| b / 2 from by omega, show (a &&& b) / 2 = a / 2 &&& b / 2 from by omega]; omega)

def rep : Nat → Nat → Nat
  | 0, _ => 0
  | n + 1, c => c + 256 * rep n c
theorem and_rep (n c x : Nat) (hc : c < 256) : x &&& rep (n + 1) c = (x % 256 &&& c) + 256 * (x / 256 &&& rep n c) := by
  have h := and_split 8 x (rep (n + 1) c)
  rw [show (2 : Nat) ^ 8 = 256 from rfl] at h
  rw [show rep (n + 1) c % 256 = c from by rw [rep]; omega, show rep (n + 1) c / 256 = rep n c from by rw [rep]; omega] at h
  exact h

def fA (b : Nat) : Nat := (b / 2 &&& 85) + (b &&& 85)
def fB (b : Nat) : Nat := (b / 4 &&& 51) + (b &&& 51)
def stA (n x : Nat) : Nat := (x / 2 &&& rep n 85) + (x &&& rep n 85)
def stB (n x : Nat) : Nat := (x / 4 &&& rep n 51) + (x &&& rep n 51)
def stC (n x : Nat) : Nat := (x / 16 + x) &&& rep n 15
theorem fA_half : ∀ r : Fin 512, (r.val / 2) % 256 &&& 85 = (r.val % 256) / 2 &&& 85 := by decide +kernel
theorem fB_half : ∀ r : Fin 1024, (r.val / 4) % 256 &&& 51 = (r.val % 256) / 4 &&& 51 := by decide +kernel
theorem fA_lt : ∀ r : Fin 256, fA r.val < 256 := by decide +kernel
theorem fB_lt : ∀ r : Fin 256, fB (fA r.val) < 69 ∧ fB (fA r.val) % 16 ≤ 4 := by decide +kernel
theorem fC_is : ∀ r : Fin 256, (fB (fA r.val) / 16 + fB (fA r.val)) % 16 = pcN 8 r.val := by decide +kernel
theorem stA_succ (n x : Nat) : stA (n + 1) x = fA (x % 256) + 256 * stA n (x / 256) := by
  unfold stA fA
  rw [and_rep _ _ _ (by omega), and_rep _ _ _ (by omega)]
  have h := fA_half ⟨x % 512, by omega⟩
  simp only at h
  rw [show x % 512 / 2 % 256 = x / 2 % 256 from by omega, show x % 512 % 256 = x % 256 from by omega] at h
  rw [h, show x / 2 / 256 = x / 256 / 2 from by omega]
  omega
theorem stB_succ (n x b q : Nat) (hx : x = b + 256 * q) (hb : b < 256) : stB (n + 1) x = fB b + 256 * stB n q := by
  unfold stB fB
  rw [and_rep _ _ _ (by omega), and_rep _ _ _ (by omega)]
  have h := fB_half ⟨x % 1024, by omega⟩
  simp only at h
  rw [show x % 1024 / 4 % 256 = x / 4 % 256 from by omega, show x % 1024 % 256 = b from by omega] at h
  rw [h, show x / 4 / 256 = q / 4 from by omega, show x % 256 = b from by omega, show x / 256 = q from by omega]
  omega
theorem stAB_succ (n x : Nat) : stB (n + 1) (stA (n + 1) x) = fB (fA (x % 256)) + 256 * stB n (stA n (x / 256)) :=
  stB_succ n _ _ _ (stA_succ n x) (fA_lt ⟨x % 256, by omega⟩)
theorem stAB_low (n x : Nat) : stB n (stA n x) % 16 ≤ 4 := by
  cases n with
  | zero => simp [stB, rep]
  | succ n =>
    rw [stAB_succ]
    have := (fB_lt ⟨x % 256, by omega⟩).2
    simp only at this
    omega
def tot (n x : Nat) : Nat := stC n (stB n (stA n x))
theorem tot_succ (n x : Nat) : tot (n + 1) x = pcN 8 (x % 256) + 256 * tot n (x / 256) := by
  unfold tot
  rw [stAB_succ]
  have h1 := fB_lt ⟨x % 256, by omega⟩
  have h2 := fC_is ⟨x % 256, by omega⟩
  have h3 := stAB_low n (x / 256)
  simp only at h1 h2
  generalize fB (fA (x % 256)) = g at h1 h2 ⊢
  generalize stB n (stA n (x / 256)) = z at h3 ⊢
  unfold stC
  rw [and_rep _ _ _ (by omega)]
  have e1 : ((g + 256 * z) / 16 + (g + 256 * z)) % 256 &&& 15 = pcN 8 (x % 256) := by
    rw [show (15 : Nat) = 2 ^ 4 - 1 from rfl, Nat.and_two_pow_sub_one_eq_mod, ← h2]
    omega
  rw [e1, show ((g + 256 * z) / 16 + (g + 256 * z)) / 256 = z / 16 + z from by omega]
theorem tot_zero (x : Nat) : tot 0 x = 0 := by simp [tot, stC, rep]
theorem pcN_add : ∀ (j k x : Nat), pcN (j + k) x = pcN j x + pcN k (x / 2 ^ j)
  | 0, k, x => by simp [pcN]
  | j + 1, k, x => by
    rw [show j + 1 + k = (j + k) + 1 from by omega, pcN, pcN, pcN_add j k (x / 2), Nat.div_div_eq_div_mul, Nat.pow_succ, Nat.mul_comm 2]
    omega
theorem pcN_mod : ∀ (k x m : Nat), k ≤ m → pcN k (x % 2 ^ m) = pcN k x
  | 0, _, _, _ => rfl
  | k + 1, x, m + 1, h => by
    rw [pcN, pcN]
    have h1 : x % 2 ^ (m + 1) % 2 = x % 2 := by rw [Nat.pow_succ, Nat.mul_comm]; exact Nat.mod_mul_right_mod x 2 _
    have h2 : x % 2 ^ (m + 1) / 2 = x / 2 % 2 ^ m := by rw [Nat.pow_succ, Nat.mul_comm, Nat.mod_mul_right_div_self]
    rw [h1, h2, pcN_mod k (x / 2) m (by omega)]

def ones (x : Nat) : Nat :=
  let z := stC 8 (stB 8 (stA 8 x))
  let z4 := z + z / 256
  let z5 := z4 + z4 / 65536
  (z5 + z5 / 4294967296) % 128
theorem pc8 (x : Nat) : pcN 8 (x % 256) = pcN 8 x := pcN_mod 8 x 8 (Nat.le_refl _)
theorem tot_eight (x : Nat) : tot 8 x = pcN 8 x + 256 * (pcN 8 (x / 256) + 256 * (pcN 8 (x / 65536) + 256 * (pcN 8 (x / 16777216) + 256 * (pcN 8 (x / 4294967296) + 256 * (pcN 8 (x / 1099511627776) + 256 * (pcN 8 (x / 281474976710656) + 256 * (pcN 8 (x / 72057594037927936) + 256 * 0))))))) := by
  simp only [tot_succ, tot_zero, pc8, Nat.div_div_eq_div_mul, Nat.reduceMul]
theorem pc_eight (x : Nat) : pcN 64 x = pcN 8 x + (pcN 8 (x / 256) + (pcN 8 (x / 65536) + (pcN 8 (x / 16777216) + (pcN 8 (x / 4294967296) + (pcN 8 (x / 1099511627776) + (pcN 8 (x / 281474976710656) + pcN 8 (x / 72057594037927936))))))) := by
  rw [show (64 : Nat) = 8 + (8 + (8 + (8 + (8 + (8 + (8 + 8)))))) from rfl]
  simp only [pcN_add, Nat.div_div_eq_div_mul, Nat.reducePow, Nat.reduceMul]
theorem low_sum (c0 c1 c2 c3 c4 c5 c6 c7 z z4 z5 : Nat) (b0 : c0 ≤ 8) (b1 : c1 ≤ 8) (b2 : c2 ≤ 8) (b3 : c3 ≤ 8) (b4 : c4 ≤ 8) (b5 : c5 ≤ 8) (b6 : c6 ≤ 8) (b7 : c7 ≤ 8)
    (hz : z = c0 + 256 * (c1 + 256 * (c2 + 256 * (c3 + 256 * (c4 + 256 * (c5 + 256 * (c6 + 256 * (c7 + 256 * 0)))))))) (h4 : z4 = z + z / 256) (h5 : z5 = z4 + z4 / 65536) :
    (z5 + z5 / 4294967296) % 128 = c0 + (c1 + (c2 + (c3 + (c4 + (c5 + (c6 + c7)))))) := by
  have d1 : z / 256 = c1 + 256 * (c2 + 256 * (c3 + 256 * (c4 + 256 * (c5 + 256 * (c6 + 256 * c7))))) := by omega
  have e4 : z4 = (c0 + c1) + 256 * ((c1 + c2) + 256 * ((c2 + c3) + 256 * ((c3 + c4) + 256 * ((c4 + c5) + 256 * ((c5 + c6) + 256 * ((c6 + c7) + 256 * c7)))))) := by omega
  clear h4 d1 hz
  have d2 : z4 / 65536 = (c2 + c3) + 256 * ((c3 + c4) + 256 * ((c4 + c5) + 256 * ((c5 + c6) + 256 * ((c6 + c7) + 256 * c7)))) := by omega
  have e5 : z5 = (c0 + c1 + c2 + c3) + 256 * ((c1 + c2 + c3 + c4) + 256 * ((c2 + c3 + c4 + c5) + 256 * ((c3 + c4 + c5 + c6) + 256 * ((c4 + c5 + c6 + c7) + 256 * ((c5 + c6 + c7) + 256 * ((c6 + c7) + 256 * c7)))))) := by omega
  clear h5 d2 e4
  have d3 : z5 / 4294967296 = (c4 + c5 + c6 + c7) + 256 * ((c5 + c6 + c7) + 256 * ((c6 + c7) + 256 * c7)) := by omega
  omega
theorem ones_is (x : Nat) : ones x = pcN 64 x := by
  rw [pc_eight]
  exact low_sum _ _ _ _ _ _ _ _ (tot 8 x) (tot 8 x + tot 8 x / 256) (tot 8 x + tot 8 x / 256 + (tot 8 x + tot 8 x / 256) / 65536) (pcN_le _ _) (pcN_le _ _) (pcN_le _ _) (pcN_le _ _) (pcN_le _ _) (pcN_le _ _) (pcN_le _ _) (pcN_le _ _) (tot_eight x) rfl rfl
end Go.Proofs.Ytkmcnekjimobhaa
namespace Go.Proofs.Ytkmcnekjimobhaa
open Go.RowKit


theorem add_block (a : Addr) (n : Nat) : (a.add n).block = a.block := by
  cases n with
  | zero => rfl
  | succ n => rfl
theorem add_add' (a : Addr) (i j : Nat) : (a.add i).add j = a.add (i + j) := by
  cases i with
  | zero => rw [Nat.zero_add]; rfl
  | succ i => cases j with
    | zero => rfl
    | succ j => simp [Addr.add]; omega

/-- a run of n elements of 'size' cells each begins at A, lies below block B, and holds the cells xs (where n is 0, of A nothing is said) -/
structure Reads (w : World) (B size : Nat) (A : Option Addr) (n : Nat) (xs : List Value) : Prop where
  len : xs.length = n * size
  lies : 0 < n → ∃ ad : Addr, A = some ad ∧ ad.block < B ∧ ∀ j u, xs[j]? = some u → w.cell? (ad.add j) = some u

section
variable {w w' : World} {B B' size n : Nat} {A : Option Addr} {xs : List Value}
theorem Reads.none_ : Reads w B size A 0 [] := ⟨by simp, by omega⟩
theorem Reads.at_ {k : Nat} (h : Reads w B 1 A n xs) (hk : k < n) : ∃ ad u, A = some ad ∧ ad.block < B ∧ xs[k]? = some u ∧ w.cell? (ad.add k) = some u := by
  obtain ⟨ad, rfl, hb, hc⟩ := h.lies (by omega)
  have hx := List.getElem?_eq_getElem (l := xs) (i := k) (by have := h.len; omega)
  exact ⟨ad, _, rfl, hb, hx, hc k _ hx⟩
/-- in another world that has the same cells below B -/
theorem Reads.keep (h : Reads w B size A n xs) (hk : ∀ p : Addr, p.block < B → w'.cell? p = w.cell? p) : Reads w' B size A n xs where
  len := h.len
  lies hn := by
    obtain ⟨ad, e, hb, hc⟩ := h.lies hn
    refine ⟨ad, e, hb, fun j u hu => ?_⟩
    rw [hk _ (by rwa [add_block])]
    exact hc j u hu
theorem Reads.more (h : Reads w B size A n xs) (hB : B ≤ B') : Reads w B' size A n xs where
  len := h.len
  lies hn := by
    obtain ⟨ad, e, hb, hc⟩ := h.lies hn
    exact ⟨ad, e, Nat.lt_of_lt_of_le hb hB, hc⟩
theorem Reads.below (h : Reads w B size A n xs) (hb : Below B w w') : Reads w' B size A n xs := h.keep fun _ => hb.cell
theorem Reads.drewN (h : Reads w B size A n xs) (k : Nat) : Reads (w.drewN k) B size A n xs := ⟨h.len, h.lies⟩
theorem Reads.drew (h : Reads w B size A n xs) : Reads w.drew B size A n xs := ⟨h.len, h.lies⟩
theorem Reads.alloc (h : Reads w B size A n xs) (hB : B ≤ w.heap.size) (o : Obj) : Reads (w.alloc o) B size A n xs :=
  h.keep fun p hp => World.cell?_alloc_lt w o p (Nat.lt_of_lt_of_le hp hB)
theorem Reads.setCell (h : Reads w B size A n xs) {p : Addr} (hB : B ≤ p.block) (u : Value) : Reads (w.setCell p u) B size A n xs :=
  h.keep fun q hq => World.cell?_setCell_other w p q u (by rintro rfl; omega)
theorem Reads.grown (h : Reads w B size A n xs) {row : Option Nat} (hg : w.grownBy w' row) (hB : B ≤ w.heap.size) (hr : ∀ g, row = some g → B ≤ g) : Reads w' B size A n xs :=
  h.keep fun p hp => World.cell?_of_block (hg.block p.block (by omega) fun e => by have := hr p.block e.symm; omega)
/-- what a call owns can be read -/
theorem Reads.of_own {base : Nat} {e : TypeId} {c : Nat} (h : w.ownsRow base e size (.slice A n c) n xs) : Reads w w.heap.size size A n xs where
  len := h.1
  lies hn := by
    obtain ⟨g, cap, hv, _, hlt⟩ := h.form hn
    simp only [Value.slice.injEq] at hv
    obtain ⟨rfl, -, -⟩ := hv
    exact ⟨⟨g, 0, none⟩, rfl, hlt, h.cells (g := g) rfl⟩
end

/-- block g is just these cells, none of them frozen -/
def Blk (w : World) (g : Nat) (t : TypeId) (cs : Array Value) : Prop := w.heap[g]? = some (.cells cs t (0, 0))

section
variable {w w' : World} {g : Nat} {t : TypeId} {cs : Array Value}
theorem Blk.lt (h : Blk w g t cs) : g < w.heap.size := (Array.getElem?_eq_some_iff.1 h).1
theorem Blk.cell (h : Blk w g t cs) (i : Nat) : w.cell? ⟨g, i, none⟩ = cs[i]? := cell_of_row w g i cs t (0, 0) h
theorem Blk.frozen (h : Blk w g t cs) (i : Nat) : w.frozen? ⟨g, i, none⟩ = false := by
  have h' : w.heap[g]? = some (.cells cs t (0, 0)) := h
  simp [World.frozen?, h']
theorem Blk.new (w : World) (t : TypeId) (cs : Array Value) : Blk (w.alloc (.cells cs t)) w.heap.size t cs := heap_alloc_new w _
theorem Blk.drewN (h : Blk w g t cs) (n : Nat) : Blk (w.drewN n) g t cs := h
theorem Blk.drew (h : Blk w g t cs) : Blk w.drew g t cs := h
theorem Blk.alloc (h : Blk w g t cs) (o : Obj) : Blk (w.alloc o) g t cs := (Below.heap_alloc w o g h.lt).trans h
theorem Blk.set_ (h : Blk w g t cs) (i : Nat) (u : Value) : Blk (w.setCell ⟨g, i, none⟩ u) g t (cs.setIfInBounds i u) := by
  have h' : w.heap[g]? = some (.cells cs t (0, 0)) := h
  show (w.setCell ⟨g, i, none⟩ u).heap[g]? = _
  simp [World.setCell, Array.getElem?_modify, h']
theorem Blk.far (h : Blk w g t cs) {p : Addr} (hp : g ≠ p.block) (u : Value) : Blk (w.setCell p u) g t cs := (Below.heap_setCell w p u g hp).trans h
theorem Blk.below {B : Nat} (h : Blk w g t cs) (hb : Below B w w') (hg : g < B) : Blk w' g t cs := (hb.block g hg).trans h
theorem Blk.grown {row : Option Nat} (h : Blk w g t cs) (hb : w.grownBy w' row) (hg : some g ≠ row) : Blk w' g t cs := (hb.block g h.lt hg).trans h
end

/-! ### ints -/
/-- cells of ints -/
def ints (zs : List Int) : List Value := zs.map (Value.int .i64)
theorem ints_length (zs : List Int) : (ints zs).length = zs.length := by simp [ints]
theorem ints_append (a b : List Int) : ints (a ++ b) = ints a ++ ints b := by simp [ints]
theorem ints_one (zs : List Int) : ∀ u ∈ ints zs, u.oneCell' = true := by
  intro u hu
  obtain ⟨z, _, rfl⟩ := List.mem_map.1 hu
  rfl
/-- a Go int -/
def I64 (z : Int) : Prop := -9223372036854775808 ≤ z ∧ z ≤ 9223372036854775807
/-- how long a slice of 8-byte things that came in may be -/
def Small (n : Nat) : Prop := n ≤ 17592186044415

theorem Reads.int_at {w : World} {B n k : Nat} {A : Option Addr} {zs : List Int} (h : Reads w B 1 A n (ints zs)) (hk : k < n) :
    ∃ ad z, A = some ad ∧ ad.block < B ∧ zs[k]? = some z ∧ w.cell? (ad.add k) = some (.int .i64 z) := by
  obtain ⟨ad, u, e, hb, hx, hc⟩ := h.at_ hk
  simp only [ints, List.getElem?_map, Option.map_eq_some_iff] at hx
  obtain ⟨z, hz, rfl⟩ := hx
  exact ⟨ad, z, e, hb, hz, hc⟩
theorem Reads.ints_len {w : World} {B n : Nat} {A : Option Addr} {zs : List Int} (h : Reads w B 1 A n (ints zs)) : zs.length = n := by
  have := h.1; simpa [ints] using this
theorem below_drewN {B : Nat} {a w : World} (h : Below B a w) (n : Nat) : Below B a (w.drewN n) := ⟨h.os, h.tape, h.output, h.size, h.block⟩
theorem below_cells {W w1 : World} (hb : Below W.heap.size W w1) : (∀ b o, b < W.heap.size → w1.cell? ⟨b, o, none⟩ = W.cell? ⟨b, o, none⟩) ∧ (∀ b o, b < W.heap.size → w1.frozen? ⟨b, o, none⟩ = W.frozen? ⟨b, o, none⟩) :=
  ⟨fun b o h => hb.cell (p := ⟨b, o, none⟩) h, fun b o h => hb.frozen (p := ⟨b, o, none⟩) h⟩
/-- the append's own row does not lie below the base -/
theorem below_app {B : Nat} {a w w' : World} {v : Value} {base n size : Nat} {e : TypeId} {xs : List Value} (h : Below B a w) (hown : w.ownsRow base e size v n xs) (hg : w.grownBy w' v.ownBlock) (hB : B ≤ w.heap.size) (hbase : B ≤ base) : Below B a w' :=
  h.grown hg hB fun k hk => by have := hown.lt k hk; omega
theorem own_form {w : World} {base : Nat} {e : TypeId} {size : Nat} {v : Value} {n : Nat} {xs : List Value} (h : w.ownsRow base e size v n xs) : ∃ V c, v = .slice V n c := by
  rcases h.2 with ⟨rfl, rfl⟩ | ⟨g, cap, _, rfl, _⟩
  · exact ⟨_, _, rfl⟩
  · exact ⟨_, _, rfl⟩
theorem grown_of_below {w w' : World} (h : Below w.heap.size w w') (row : Option Nat) : w.grownBy w' row := ⟨h.os, h.tape, h.output, h.size, fun k hk _ => h.block k hk⟩
theorem own_below {w w' : World} {base : Nat} {e : TypeId} {size : Nat} {v : Value} {n : Nat} {xs : List Value} (h : w.ownsRow base e size v n xs) (hb : Below w.heap.size w w') : w'.ownsRow base e size v n xs :=
  h.kept (grown_of_below hb none) (by cases h' : v.ownBlock <;> simp)
theorem own_far {w w' : World} {base : Nat} {e : TypeId} {size : Nat} {v : Value} {n : Nat} {xs : List Value} (h : w.ownsRow base e size v n xs) {g : Nat} (hg : w.grownBy w' (some g)) (hlt : g < base) : w'.ownsRow base e size v n xs :=
  h.kept hg (.inr fun e => by have := h.lt g e; omega)
theorem own_ne {w : World} {base : Nat} {e : TypeId} {size : Nat} {v : Value} {n : Nat} {xs : List Value} (h : w.ownsRow base e size v n xs) {b : Nat} (hb : b < base) : some b ≠ v.ownBlock := fun e => absurd (h.lt _ e.symm).1 (by omega)
theorem own_ne_add {w : World} {base : Nat} {e : TypeId} {size : Nat} {v : Value} {n : Nat} {xs : List Value} (h : w.ownsRow base e size v n xs) {a : Addr} {k : Nat} (hb : a.block < base) : some (a.add k).block ≠ v.ownBlock := own_ne h (by rw [add_block]; exact hb)
theorem getElem?_lt {α : Type} {l : List α} {k : Nat} {x : α} (h : l[k]? = some x) : k < l.length := (List.getElem?_eq_some_iff.1 h).1
theorem take_succ_of {α : Type} {l : List α} {k : Nat} {x : α} (h : l[k]? = some x) : l.take (k + 1) = l.take k ++ [x] := by
  rw [List.take_add_one, h]; rfl
theorem ret_int {k : IntKind} {a b : Int} (h : a = b) : Ending.returned (.int k a) = .returned (.int k b) := by rw [h]
theorem ret_bool {a b : Bool} (h : a = b) : Ending.returned (.bool a) = .returned (.bool b) := by rw [h]
/-- make([]T, n, c): what run_make says, at numbers that are not below 0 -/
theorem made_run {P : Program} {t e : TypeId} {i : TypeInfo} {z : Value} (ht : P.underlying t = some (.slice e)) (hi : P.info? e = some i) (hz : i.zero = some z)
    (kl kc : IntKind) {n c : Nat} (hnc : n ≤ c) (hb : (i.bytes : Int) * (c : Int) ≤ 281474976710656) (hc : c ≤ 9223372036854775807) (w : World) :
    (Instr.makeSlice t (.int kl (n : Int)) (.int kc (c : Int))).run P w = .ok (.slice (some ⟨w.heap.size, 0, none⟩) n c) (w.alloc (.cells (madeCells z.cells (c * i.size)) e)) := by
  simpa using run_make (P := P) w t e i z ht hi hz kl kc (n : Int) (c : Int) (by omega) (by omega) hb (by omega)
/-- the cells of a row of zeros that make lays -/
def zeros (n : Nat) : Array Value := madeCells (Value.int .i64 0).cells (n * 1)
theorem zeros_size (n : Nat) : (zeros n).size = n := by simp [zeros, size_madeCells]
theorem zeros_toList (n : Nat) : (zeros n).toList = ints (List.replicate n 0) := by
  apply List.ext_getElem
  · simp [zeros, size_madeCells, ints]
  · intro i h1 h2
    simp [zeros, madeCells, Value.cells, ints, Nat.mod_one]
theorem reads_block {w : World} {g B : Nat} {t : TypeId} {cs : Array Value} {xs : List Value} {n : Nat} (h : w.heap[g]? = some (.cells cs t (0, 0))) (hx : xs = cs.toList) (hn : n = cs.size) (hg : g < B) : Reads w B 1 (some ⟨g, 0, none⟩) n xs := by
  subst hx hn
  exact ⟨by simp, fun _ => ⟨_, rfl, hg, World.news_of_block h⟩⟩
theorem blk_at {w : World} {g : Nat} {t : TypeId} {cs : Array Value} (h : g = w.heap.size) : Blk (w.alloc (.cells cs t)) g t cs := by rw [h]; exact Blk.new w t cs
theorem Reads.on {w w' : World} {size n C : Nat} {A : Option Addr} {xs : List Value} (h : Reads w w.heap.size size A n xs) (hb : Below C w w') (hC : w.heap.size ≤ C) : Reads w' w'.heap.size size A n xs := (h.below (hb.mono hC)).more hb.size
theorem Reads.alloc_on {w : World} {size n : Nat} {A : Option Addr} {xs : List Value} (h : Reads w w.heap.size size A n xs) (o : Obj) : Reads (w.alloc o) (w.alloc o).heap.size size A n xs := (h.alloc (Nat.le_refl _) o).more (by simp)
end Go.Proofs.Ytkmcnekjimobhaa

/- What strings.IndexByte, walk.Alpha, walk.shorter and walk.Over answer. -/
namespace Go.Proofs.Ytkmcnekjimobhaa
open Go.RowKit

set_option maxRecDepth 100000 in
theorem indexByte_lite (s : ByteArray) (c : Int) (w : World) :
    Calls Try.prog 134 #[.string s, .int .u8 c] w fun e w' => e = .returned (.int .i64 (Lib.indexByte s.data.toList c.toNat.toUInt8)) ∧ w = w' := by
  go_enter Try.func134, Try.ntmps134
  go_wp2
  rw [run_callFunc_extern Try.func149 (by kernel_rfl) (by kernel_rfl) (by kernel_rfl) (e := Extern.BytealgIndexByte.indexByte) (by kernel_rfl), Lib.run_indexByteString]
  simp only [Result.andThen]
  rw [Oper.upon_value]
  go_wp2
  go_ret
  exact ⟨rfl, rfl⟩
set_option maxRecDepth 100000 in
theorem indexByte_any (s : ByteArray) (c : Int) (w : World) :
    Calls Try.prog 124 #[.string s, .int .u8 c] w fun e w' => e = .returned (.int .i64 (Lib.indexByte s.data.toList c.toNat.toUInt8)) ∧ w = w' := by
  go_enter Try.func124, Try.ntmps124
  go_wp2_with (go_at_call 134; refine (indexByte_lite _ _ _).mono ?_; rintro e w' ⟨rfl, rfl⟩)
  go_ret
  exact ⟨rfl, rfl⟩

/-- the byte at place k, as a number -/
def bt (l : List UInt8) (k : Nat) : Nat := (l.getD k 0).toNat
theorem bt_of {s : ByteArray} {k : Nat} (h : k < s.size) : s[k].toNat = bt s.data.toList k := by
  have h' : k < s.data.toList.length := by simpa using h
  unfold bt
  rw [List.getD_eq_getElem?_getD, List.getElem?_eq_getElem h']
  rfl
theorem bt_lt (l : List UInt8) (k : Nat) : bt l k < 256 := (l.getD k 0).toNat_lt

def Rises (l : List UInt8) (k : Nat) : Prop := ∀ i, 1 ≤ i → i < k → bt l (i - 1) < bt l i
def AlphaOk (l : List UInt8) : Prop := l ≠ [] ∧ l.length ≤ 8 ∧ Rises l l.length
theorem size_list (s : ByteArray) : s.data.toList.length = s.size := by simp

theorem get_byte {s : ByteArray} {k : Nat} (h : k < s.size) : s.data.toList[k]? = some s[k] := by rw [List.getElem?_eq_getElem (by rw [size_list]; exact h)]; rfl

set_option maxRecDepth 100000 in
theorem alpha3_any (a : ByteArray) (w : World) (hs : a.size ≤ 140737488351232) : Calls Try.prog 36 #[.string a] w fun e w' => (∃ n, e = .returned (.int .i64 n) ∧ (n = 0 ↔ AlphaOk a.data.toList) ∧ n ≠ 11) ∧ ∃ d, w' = w.drewN d := by
  have hl := size_list a
  have HL := Lib.hid hl
  clear hl
  by_cases h0 : a.size = 0
  · have he : a.toList = [] := by rw [ByteArray.toList_eq]; exact List.eq_nil_of_length_eq_zero (by rw [HL.out]; exact h0)
    have he' : (!a.toList.isEmpty) = false := by rw [he]; rfl
    go_enter Try.func36, Try.ntmps36
    go_wp2
    go_ret
    exact ⟨⟨1, rfl, by simp [AlphaOk, List.eq_nil_of_length_eq_zero (HL.out.trans h0)], by decide⟩, 0, rfl⟩
  have hne : a.data.toList ≠ [] := fun h => h0 (by rw [← HL.out, h]; rfl)
  have he : a.toList.isEmpty = false := by rw [ByteArray.toList_eq]; cases h : a.data.toList with
    | nil => exact absurd h hne
    | cons _ _ => rfl
  by_cases h8 : 8 < a.size
  · have Hn : Hid ((2 : Int) = 0 ↔ AlphaOk a.data.toList) := ⟨fun h => by omega, fun h => by have := h.2.1; rw [HL.out] at this; omega⟩
    go_enter Try.func36, Try.ntmps36
    go_wp2
    go_ret
    exact ⟨⟨2, rfl, Hn.out, by decide⟩, 0, rfl⟩
  have HNE := Lib.hid hne
  clear hne
  go_enter Try.func36, Try.ntmps36
  go_wp2
  go_loopw [3] (fun i wr => ∃ k d : Nat, 1 ≤ k ∧ k ≤ a.size ∧ i = .int .i64 k ∧ Rises a.data.toList k ∧ wr = w.drewN d) (fun i _ => a.size - (intOf i).toNat)
  case atStart => exact ⟨1, 0, by omega, by omega, rfl, fun i h1 h2 => by omega, rfl⟩
  case round =>
    obtain ⟨k, d, hk1, hk, rfl, hr, rfl⟩ := hrel
    have HR := Lib.hid hr
    clear hr
    by_cases hkn : k < a.size
    · have hb1 := bt_of hkn
      obtain ⟨j, rfl⟩ : ∃ j, k = j + 1 := ⟨k - 1, by omega⟩
      have hb2 := bt_of (show j < a.size by omega)
      by_cases hlt : bt a.data.toList j < bt a.data.toList (j + 1)
      · have hle : (((bt a.data.toList (j + 1) : Nat) : Int) ≤ ((bt a.data.toList j : Nat) : Int)) = False := by simp; omega
        go_wp2
        go_quiet (fail)
        go_wp2
        go_roundw
        case rel => exact ⟨j + 2, _, by omega, by omega, by go_num, fun i h1 h2 => by
          by_cases hi : i < j + 1
          · exact HR.out i h1 hi
          · obtain rfl : i = j + 1 := by omega
            exact hlt, rfl⟩
        case measure => simp [intOf]; omega
      · have hge : bt a.data.toList (j + 1) ≤ bt a.data.toList j := by omega
        go_wp2
        go_quiet (fail)
        go_wp2
        go_ret
        exact ⟨⟨3, rfl, by simp; exact fun h => absurd (h.2.2 (j + 1) (by omega) (by rw [HL.out]; omega)) (by simpa using hlt), by decide⟩, _, World.drewN_drewN _ _ _⟩
    · obtain rfl : k = a.size := by omega
      go_wp2
      go_ret
      exact ⟨⟨0, rfl, by simp; exact ⟨HNE.out, by rw [HL.out]; omega, by rw [HL.out]; exact HR.out⟩, by decide⟩, d, rfl⟩
theorem alpha_any (a : ByteArray) (w : World) (hs : a.size ≤ 140737488351232) : Calls Try.prog 36 #[.string a] w fun e w' => (∃ n, e = .returned (.int .i64 n) ∧ (n = 0 ↔ AlphaOk a.data.toList)) ∧ ∃ d, w' = w.drewN d :=
  (alpha3_any a w hs).mono fun _ _ ⟨⟨n, h1, h2, _⟩, h3⟩ => ⟨⟨n, h1, h2⟩, h3⟩
end Go.Proofs.Ytkmcnekjimobhaa

/- A set's words, and what set.Has answers. -/
namespace Go.Proofs.Ytkmcnekjimobhaa
open Go.RowKit

def hasN (l : List Nat) (b : Nat) : Bool := (l.getD (b / 64) 0).testBit (b % 64)
def vals (l : List Nat) : Value := .agg #[.int .u64 (l.getD 0 0 : Nat), .int .u64 (l.getD 1 0 : Nat), .int .u64 (l.getD 2 0 : Nat), .int .u64 (l.getD 3 0 : Nat)]
def Words (l : List Nat) : Prop := ∀ i, l.getD i 0 < 18446744073709551616

theorem and63_u8 : ∀ b : Fin 256, bits .and .u8 ((b : Nat) : Int) 63 = (((b : Nat) % 64 : Nat) : Int) := by decide +kernel
set_option maxRecDepth 100000 in
theorem has_any (l : List Nat) (hl : Words l) (b : Nat) (hb : b < 256) (w : World) :
    Calls Try.prog 85 #[vals l, .int .u8 b] w fun e w' => e = .returned (.bool (hasN l b)) ∧ Below w.heap.size w w' := by
  have hc : ∀ W : World, Hid (Blk W w.heap.size 34 #[.int .u64 (l.getD 0 0 : Nat), .int .u64 (l.getD 1 0 : Nat), .int .u64 (l.getD 2 0 : Nat), .int .u64 (l.getD 3 0 : Nat)] → W.cell? ⟨w.heap.size, b / 64, none⟩ = some (.int .u64 (l.getD (b / 64) 0 : Nat))) := fun W hb => by
    rcases (by omega : b / 64 = 0 ∨ b / 64 = 1 ∨ b / 64 = 2 ∨ b / 64 = 3) with h | h | h | h <;> rw [h]
    · exact hb.cell 0
    · exact hb.cell 1
    · exact hb.cell 2
    · exact hb.cell 3
  have hc0 := (hc (w.alloc (.cells #[.int .u64 (l.getD 0 0 : Nat), .int .u64 (l.getD 1 0 : Nat), .int .u64 (l.getD 2 0 : Nat), .int .u64 (l.getD 3 0 : Nat)] 34))).out (blk_at rfl)
  clear hc
  have hx := hl (b / 64)
  clear hl
  unfold vals
  have hand := and63_u8 ⟨b, hb⟩
  simp only at hand
  obtain ⟨q, hq⟩ : ∃ q : Nat, b / 64 = q := ⟨_, rfl⟩
  have hqi : (b : Int) / 64 = (q : Int) := by omega
  have hq0 : (0 : Int) ≤ (q : Int) := by omega
  have hq4 : (q : Int) < 4 := by omega
  obtain ⟨k, hk⟩ : ∃ k : Nat, b % 64 = k := ⟨_, rfl⟩
  rw [hk] at hand
  have HH : Hid (hasN l b = decide ((l.getD (b / 64) 0) / 2 ^ k % 2 = 1)) := by
    show hasN l b = _
    rw [hasN, Nat.testBit_eq_decide_div_mod_eq, hk]
  have hk64 : k < 64 := by omega
  have hk0 : (0 : Int) ≤ (k : Int) := by omega
  rw [hq] at hc0 hx HH
  generalize l.getD q 0 = x at hc0 hx HH
  have hbit : bits .and .u64 ((x : Int) / 2 ^ k) 1 = ((x / 2 ^ k % 2 : Nat) : Int) := by
    have h1 : x / 2 ^ k ≤ x := Nat.div_le_self _ _
    have := u64_and_nat (x / 2 ^ k) 1 (by omega) (by omega)
    rw [Nat.and_one_is_mod, show ((x / 2 ^ k : Nat) : Int) = (x : Int) / 2 ^ k from by simp] at this
    exact this
  rw [HH.out]
  generalize x / 2 ^ k % 2 = y at hbit ⊢
  generalize l.getD 0 0 = e0 at hc0 ⊢
  generalize l.getD 1 0 = e1 at hc0 ⊢
  generalize l.getD 2 0 = e2 at hc0 ⊢
  generalize l.getD 3 0 = e3 at hc0 ⊢
  clear HH hq hk
  go_enter Try.func85, Try.ntmps85
  go_wp2
  go_ret
  refine ⟨?_, (by repeat (first | exact Below.refl _ _ | assumption | refine Below.drew ?_ | refine below_drewN ?_ _ | refine Below.alloc ?_ (by first | omega | (simp; omega) | simp) _ | refine Below.setCell ?_ (by first | omega | (simp; omega) | simp) _))⟩
  show Ending.returned (.bool ((y : Int) == 1)) = _
  rw [show ((y : Int) == 1) = decide (y = 1) from by rw [Bool.eq_iff_iff]; simp; omega]

end Go.Proofs.Ytkmcnekjimobhaa
namespace Go.Proofs.Ytkmcnekjimobhaa

def cnt (l : List Nat) : Nat → Nat
  | 0 => 0
  | f + 1 => cnt l f + if hasN l f then 1 else 0
theorem pcN_succ (k x : Nat) : pcN (k + 1) x = pcN k x + if x.testBit k then 1 else 0 := by
  rw [pcN_add, pcN, pcN, Nat.testBit_eq_decide_div_mod_eq]
  have : x / 2 ^ k % 2 = 0 ∨ x / 2 ^ k % 2 = 1 := by omega
  rcases this with h | h <;> simp [h]
theorem cnt_word (l : List Nat) (i : Nat) : ∀ k, k ≤ 64 → cnt l (64 * i + k) = cnt l (64 * i) + pcN k (l.getD i 0)
  | 0, _ => rfl
  | k + 1, h => by
    have ih := cnt_word l i k (by omega)
    show cnt l (64 * i + k + 1) = _
    rw [cnt, ih, pcN_succ, hasN, show (64 * i + k) / 64 = i from by omega, show (64 * i + k) % 64 = k from by omega]
    omega
theorem cnt_all (l : List Nat) : cnt l 256 = pcN 64 (l.getD 0 0) + pcN 64 (l.getD 1 0) + pcN 64 (l.getD 2 0) + pcN 64 (l.getD 3 0) := by
  have h0 := cnt_word l 0 64 (by omega)
  have h1 := cnt_word l 1 64 (by omega)
  have h2 := cnt_word l 2 64 (by omega)
  have h3 := cnt_word l 3 64 (by omega)
  simp only [Nat.reduceMul, Nat.reduceAdd, Nat.mul_zero, Nat.zero_add] at h0 h1 h2 h3
  rw [h3, h2, h1, h0]
  simp [cnt]
theorem cnt_le (l : List Nat) : ∀ f, cnt l f ≤ f
  | 0 => Nat.le_refl _
  | f + 1 => by
    have := cnt_le l f
    rw [cnt]
    split <;> omega
theorem cnt_gap (l : List Nat) (f : Nat) : ∀ k, (∀ j, f ≤ j → j < f + k → hasN l j = false) → cnt l (f + k) = cnt l f
  | 0, _ => rfl
  | k + 1, h => by
    show cnt l (f + k + 1) = _
    rw [cnt, h (f + k) (by omega) (by omega), cnt_gap l f k (fun j h1 h2 => h j h1 (by omega))]
    simp

/-- the first byte of a set from f on, or -1 -/
def FirstIs (l : List Nat) (f : Nat) (r : Int) : Prop :=
  (∃ b : Nat, r = b ∧ f ≤ b ∧ b < 256 ∧ hasN l b = true ∧ ∀ j, f ≤ j → j < b → hasN l j = false) ∨ (r = -1 ∧ ∀ j, f ≤ j → j < 256 → hasN l j = false)
theorem FirstIs.cnt {l : List Nat} {f b : Nat} (h : FirstIs l f (b : Int)) : f ≤ b ∧ b < 256 ∧ hasN l b = true ∧ Go.Proofs.Ytkmcnekjimobhaa.cnt l (b + 1) = Go.Proofs.Ytkmcnekjimobhaa.cnt l f + 1 := by
  rcases h with ⟨b', e, h1, h2, h3, h4⟩ | ⟨e, _⟩
  · obtain rfl : b = b' := by omega
    refine ⟨h1, h2, h3, ?_⟩
    have := cnt_gap l f (b - f) (fun j h5 h6 => h4 j h5 (by omega))
    rw [show f + (b - f) = b from by omega] at this
    rw [Go.Proofs.Ytkmcnekjimobhaa.cnt, h3, this]
    simp
  · omega
theorem FirstIs.none {l : List Nat} {f : Nat} {r : Int} (h : FirstIs l f r) (hr : r < 0) (hf : f ≤ 256) : Go.Proofs.Ytkmcnekjimobhaa.cnt l f = Go.Proofs.Ytkmcnekjimobhaa.cnt l 256 := by
  rcases h with ⟨b', e, h1, h2, h3, h4⟩ | ⟨_, h⟩
  · omega
  · have := cnt_gap l f (256 - f) (fun j h5 h6 => h j h5 (by omega))
    rw [show f + (256 - f) = 256 from by omega] at this
    exact this.symm

/-- a word without its lowest k bits -/
theorem cut_bit (w k j : Nat) : (w / 2 ^ k * 2 ^ k).testBit j = (decide (k ≤ j) && w.testBit j) := by
  rw [← Nat.shiftRight_eq_div_pow, ← Nat.shiftLeft_eq, Nat.testBit_shiftLeft, Nat.testBit_shiftRight]
  by_cases h : k ≤ j
  · simp [h]
  · simp [h]
theorem ctz_is (x : Nat) (h0 : x ≠ 0) (hx : x < 18446744073709551616) : x.testBit (Lib.ctz 64 x) = true ∧ Lib.ctz 64 x < 64 ∧ ∀ j, j < Lib.ctz 64 x → x.testBit j = false := by
  obtain ⟨m, hm, hk⟩ := Lib.ctzFrom_spec 64 x (by omega) hx
  have e : Lib.ctz 64 x = Lib.ctzFrom 64 x := by simp [Lib.ctz, h0]
  rw [e]
  generalize Lib.ctzFrom 64 x = c at hm hk
  have hb : ∀ j, x.testBit j = (decide (c ≤ j) && (2 * m + 1).testBit (j - c)) := fun j => by
    rw [hm, Nat.mul_comm, ← Nat.shiftLeft_eq, Nat.testBit_shiftLeft]
  refine ⟨?_, hk, fun j hj => ?_⟩
  · rw [hb, Nat.sub_self]
    simp [Nat.testBit_zero]
  · rw [hb]
    have : ¬ c ≤ j := by omega
    simp [this]
/-- a word that is not empty from bit k on gives the first -/
theorem first_word {l : List Nat} {f i w : Nat} (hi : i < 4) (hw : l.getD i 0 = w) (hlt : w < 18446744073709551616) (k : Nat) (hk : k < 64) (hf : f ≤ 64 * i + k) (hgap : ∀ j, f ≤ j → j < 64 * i + k → hasN l j = false)
    (h0 : w / 2 ^ k * 2 ^ k ≠ 0) : FirstIs l f ((64 * i + Lib.ctz 64 (w / 2 ^ k * 2 ^ k) : Nat) : Int) := by
  have hle : w / 2 ^ k * 2 ^ k ≤ w := Nat.div_mul_le_self _ _
  obtain ⟨h1, h2, h3⟩ := ctz_is _ h0 (by omega)
  generalize Lib.ctz 64 (w / 2 ^ k * 2 ^ k) = c at h1 h2 h3 ⊢
  rw [cut_bit] at h1
  simp at h1
  refine .inl ⟨64 * i + c, rfl, by omega, by omega, ?_, fun j hj hj2 => ?_⟩
  · rw [hasN, show (64 * i + c) / 64 = i from by omega, show (64 * i + c) % 64 = c from by omega, hw]
    exact h1.2
  · by_cases hj3 : j < 64 * i + k
    · exact hgap j hj hj3
    · have := h3 (j - 64 * i) (by omega)
      rw [cut_bit] at this
      have hkj : k ≤ j - 64 * i := by omega
      simp [hkj] at this
      rw [hasN, show j / 64 = i from by omega, show j % 64 = j - 64 * i from by omega, hw]
      exact this
theorem gap_word {l : List Nat} {f i w : Nat} (hw : l.getD i 0 = w) (k : Nat) (hgap : ∀ j, f ≤ j → j < 64 * i + k → hasN l j = false)
    (h0 : w / 2 ^ k * 2 ^ k = 0) : ∀ j, f ≤ j → j < 64 * (i + 1) → hasN l j = false := by
  intro j hj hj2
  by_cases hj3 : j < 64 * i + k
  · exact hgap j hj hj3
  · have h := cut_bit w k (j - 64 * i)
    rw [h0] at h
    have hkj : k ≤ j - 64 * i := by omega
    simp [hkj] at h
    rw [hasN, show j / 64 = i from by omega, show j % 64 = j - 64 * i from by omega, hw]
    exact h
end Go.Proofs.Ytkmcnekjimobhaa
namespace Go.Proofs.Ytkmcnekjimobhaa
open Go.RowKit

theorem add_nat (a b : Nat) (h : a + b < 18446744073709551616) : IntKind.u64.wrap ((a : Int) + (b : Int)) = ((a + b : Nat) : Int) := by
  rw [IntKind.wrap_u64]
  omega
theorem tot_lt (x : Nat) : tot 8 x < 1157442765409226769 := by
  have h0 := pcN_le 8 x
  have h1 := pcN_le 8 (x / 256)
  have h2 := pcN_le 8 (x / 65536)
  have h3 := pcN_le 8 (x / 16777216)
  have h4 := pcN_le 8 (x / 4294967296)
  have h5 := pcN_le 8 (x / 1099511627776)
  have h6 := pcN_le 8 (x / 281474976710656)
  have h7 := pcN_le 8 (x / 72057594037927936)
  rw [tot_eight]
  omega

/-- the table of TrailingZeros64 in its variable -/
def TabAt (w : World) : Prop := ∀ j, j < Lib.deBruijn64tab.length → w.cell? ⟨0, j, none⟩ = some (.int .u8 (Lib.deBruijn64tab.getD j 0))
theorem TabAt.pos {w : World} (h : TabAt w) : 0 < w.heap.size := World.block_lt_of_cell? w _ (h 0 (by decide))
theorem TabAt.below {w w' : World} {B : Nat} (h : TabAt w) (hb : Below B w w') (hB : 0 < B) : TabAt w' := fun j hj => (hb.cell hB).trans (h j hj)
theorem tz_key (x a : Nat) (hx : x < 18446744073709551616) (hx0 : x ≠ 0) (hlow : x &&& (18446744073709551616 - x) = a) :
    IntKind.u64.wrap (bits BinOp.and IntKind.u64 (x : Int) (IntKind.u64.wrap (-(x : Int))) * 285870213051353865) / 288230376151711744 = ((a * 285870213051353865 % 18446744073709551616 / 288230376151711744 : Nat) : Int) := by
  have e1 : IntKind.u64.wrap (-(x : Int)) = ((18446744073709551616 - x : Nat) : Int) := by rw [IntKind.wrap_u64]; omega
  rw [e1, u64_and_nat x _ hx (by omega), hlow, IntKind.wrap_u64]
  omega
end Go.Proofs.Ytkmcnekjimobhaa
namespace Go.Proofs.Ytkmcnekjimobhaa
open Go.RowKit

/-- four words -/
def psum (l : List Nat) : Nat → Nat
  | 0 => 0
  | k + 1 => psum l k + pcN 64 (l.getD k 0)
theorem psum_four (l : List Nat) : psum l 4 = cnt l 256 := by rw [cnt_all]; simp [psum]
theorem psum_le (l : List Nat) : ∀ k, psum l k ≤ 64 * k
  | 0 => Nat.le_refl _
  | k + 1 => by
    have := psum_le l k
    have := pcN_le 64 (l.getD k 0)
    rw [psum]
    omega
theorem vals_get (l : List Nat) (k : Nat) (hk : k < 4) (w : World) : (Instr.index 34 (vals l) (.int .i64 (k : Int))).run Try.prog w = .ok (.int .u64 (l.getD k 0 : Nat)) w := by
  rcases (by omega : k = 0 ∨ k = 1 ∨ k = 2 ∨ k = 3) with rfl | rfl | rfl | rfl <;> kernel_rfl

end Go.Proofs.Ytkmcnekjimobhaa
namespace Go.Proofs.Ytkmcnekjimobhaa

/-- an instruction: its kind, its number, the words of its set -/
structure In where
  op : Int
  n : Int
  a : Nat
  b : Nat
  c : Nat
  d : Nat
def In.set (x : In) : List Nat := [x.a, x.b, x.c, x.d]
def In.zero (x : In) : Bool := (x.a : Int) == 0 && ((x.b : Int) == 0 && ((x.c : Int) == 0 && (x.d : Int) == 0))
def jumpsB (op : Int) : Bool := decide (op = 2 ∨ op = 3 ∨ op = 4 ∨ op = 5 ∨ op = 9 ∨ op = 10)
/-- may an instruction be so in a program of m? -/
def okIn (m : Nat) (x : In) : Bool := decide (1 ≤ x.op) && decide (x.op ≤ 11) && decide (0 ≤ x.n) && decide (x.n ≤ if jumpsB x.op then (m : Int) - 1 else 0) && (decide (x.op = 1) || x.zero)
def checkM (l : List In) : Int := if 6000 < l.length then 2 else if l.all (okIn l.length) then 0 else 3

/-- the machine: where it is, and what is to be gone back to (the last one first; a call has place -1) -/
structure MS where
  pc : Nat
  at_ : Nat
  st : List (Nat × Int)
def failL : List (Nat × Int) → Option (Nat × Nat × List (Nat × Int))
  | [] => none
  | (p, a) :: r => if 0 ≤ a then some (p, a.toNat, r) else failL r
/-- back to the last choice -/
def failM (st : List (Nat × Int)) : Except Int MS :=
  match failL st with
  | none => .error 0
  | some (p, a, r) => .ok ⟨p, a, r⟩
def pushM (pc at_ : Nat) (st : List (Nat × Int)) (x : Nat × Int) : Except Int MS := if st.length = 10000 then .error 14 else .ok ⟨pc, at_, x :: st⟩
/-- instructions that look at the last entry -/
def backM (x : In) (pc at_ : Nat) (st : List (Nat × Int)) : Except Int MS :=
  match st with
  | [] => .error 13
  | (p, a) :: r =>
    if decide (a < 0) = decide (x.op = 6) then
      if x.op = 6 then .ok ⟨p, at_, r⟩
      else if x.op = 4 then .ok ⟨x.n.toNat, at_, r⟩
      else if x.op = 9 then .ok ⟨x.n.toNat, at_, (p, at_) :: r⟩
      else if x.op = 10 then .ok ⟨x.n.toNat, a.toNat, r⟩
      else if x.op = 11 then failM r
      else .ok ⟨pc, at_, r⟩
    else .error 13
def oneM (s : List UInt8) (x : In) (m : MS) : Except Int MS :=
  if x.op = 1 then (if m.at_ = s.length ∨ hasN x.set (s.getD m.at_ 0).toNat = false then failM m.st else .ok ⟨m.pc + 1, m.at_ + 1, m.st⟩)
  else if x.op = 2 then .ok ⟨x.n.toNat, m.at_, m.st⟩
  else if x.op = 3 then pushM (m.pc + 1) m.at_ m.st (x.n.toNat, m.at_)
  else if x.op = 5 then pushM x.n.toNat m.at_ m.st (m.pc + 1, -1)
  else if x.op = 7 then failM m.st
  else backM x (m.pc + 1) m.at_ m.st
def runM (l : List In) (s : List UInt8) : Nat → MS → Bool × Nat × Int
  | k, m => match l[m.pc]? with
    | none => (false, 0, 13)
    | some x => match k with
      | 0 => (false, 0, 10)
      | k + 1 => if x.op = 8 then (true, m.at_, 0) else match oneM s x m with
        | .ok m' => runM l s k m'
        | .error e => (false, 0, e)
/-- with more steps it is the same -/
theorem runM_more (l : List In) (s : List UInt8) (j : Nat) : ∀ (k : Nat) (m : MS), (runM l s k m).2.2 ≠ 10 → runM l s (k + j) m = runM l s k m
  | 0, m, h => by
    rw [runM.eq_def] at h
    rw [runM.eq_def l s (0 + j) m, runM.eq_def l s 0 m]
    dsimp only at h ⊢
    cases hx : l[m.pc]? with
    | none => rfl
    | some x => rw [hx] at h; exact absurd rfl h
  | k + 1, m, h => by
    rw [runM.eq_def l s (k + 1) m] at h ⊢
    rw [show k + 1 + j = (k + j) + 1 from by omega, runM.eq_def l s (k + j + 1) m]
    dsimp only at h ⊢
    cases hx : l[m.pc]? with
    | none => rfl
    | some x =>
      rw [hx] at h
      dsimp only at h ⊢
      by_cases h8 : x.op = 8
      · rw [if_pos h8, if_pos h8]
      · rw [if_neg h8] at h ⊢
        rw [if_neg h8]
        cases ho : oneM s x m with
        | error e => rfl
        | ok m' =>
          rw [ho] at h
          exact runM_more l s j k m' h
/-- what code.Run answers -/
def codeM (l : List In) (s : List UInt8) (steps : Int) : Bool × Nat × Int :=
  if checkM l ≠ 0 then (false, 0, checkM l) else if 60 < s.length then (false, 0, 2) else if steps < 0 ∨ 16777216 < steps then (false, 0, 1) else runM l s steps.toNat ⟨0, 0, []⟩
theorem codeM_more (l : List In) (s : List UInt8) (i j : Nat) (hi : i < 5000) (hj : j < 5000) (h : (codeM l s i).2.2 ≠ 10) : codeM l s ((i : Int) + j) = codeM l s i := by
  unfold codeM at h ⊢
  by_cases h1 : checkM l ≠ 0
  · rw [if_pos h1, if_pos h1]
  · rw [if_neg h1] at h ⊢
    rw [if_neg h1]
    by_cases h2 : 60 < s.length
    · rw [if_pos h2, if_pos h2]
    · rw [if_neg h2, if_neg (by omega)] at h ⊢
      rw [if_neg h2, if_neg (by omega)]
      rw [show ((i : Int) + j).toNat = i + j from by omega, show ((i : Int)).toNat = i from rfl] at *
      exact runM_more l s j i _ h
end Go.Proofs.Ytkmcnekjimobhaa
