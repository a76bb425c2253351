/- Words of memory for this seat's proofs: a run of cells that can be read, a block that is known whole, ints, and what a world keeps. Expressions in memory. What strings.IndexByte, walk.Alpha, walk.shorter and walk.Over answer. What expr.Name answers. Sets are compared word by word; the walk of the law SetAlgebra. Expressions: what a text of cells says, and what expr.fit answers. What (*expr.looker).look, expr.Check and expr.Size answer. Grammars in memory; a kid, a rule, with all its cells. -/
import Derived.WalkKit
import Derived.LoopTactic
import Derived.Below
import Derived.Laws.OwnMore
import Derived.Deep.AppendLies
import Derived.Deep.Draws
import Derived.Laws.Rows
import Derived.Maps.AppendAt
import Derived.RegionTactic
import Derived.OwnWalk
import Derived.Lib.Hide
import Derived.Test.YtkmcnekjimobhaaDoorProg
import Derived.BigQuiet
import Derived.Deep.QuietTactic
import Derived.Lib.Bytealg
import Derived.Lib.IndexLaws
import Derived.ChangeKeysEq
namespace Go.Proofs.YtkmcnekjimobhaaDoor
open Go.RowKit


theorem add_block (a : Addr) (n : Nat) : (a.add n).block = a.block := by
  cases n with
  | zero => rfl
  | succ n => rfl
theorem add_add' (a : Addr) (i j : Nat) : (a.add i).add j = a.add (i + j) := by
  cases i with
  | zero => rw [Nat.zero_add]; rfl
  | succ i => cases j with
    | zero => rfl
    | succ j => simp [Addr.add]; omega

/-- a run of n elements of 'size' cells each begins at A, lies below block B, and holds the cells xs (where n is 0, of A nothing is said) -/
structure Reads (w : World) (B size : Nat) (A : Option Addr) (n : Nat) (xs : List Value) : Prop where
  len : xs.length = n * size
  lies : 0 < n → ∃ ad : Addr, A = some ad ∧ ad.block < B ∧ ∀ j u, xs[j]? = some u → w.cell? (ad.add j) = some u

section
variable {w w' : World} {B B' size n : Nat} {A : Option Addr} {xs : List Value}
theorem Reads.none_ : Reads w B size A 0 [] := ⟨by simp, by omega⟩
theorem Reads.at_ {k : Nat} (h : Reads w B 1 A n xs) (hk : k < n) : ∃ ad u, A = some ad ∧ ad.block < B ∧ xs[k]? = some u ∧ w.cell? (ad.add k) = some u := by
  obtain ⟨ad, rfl, hb, hc⟩ := h.lies (by omega)
  have hx := List.getElem?_eq_getElem (l := xs) (i := k) (by have := h.len; omega)
  exact ⟨ad, _, rfl, hb, hx, hc k _ hx⟩
/-- in another world that has the same cells below B -/
theorem Reads.keep (h : Reads w B size A n xs) (hk : ∀ p : Addr, p.block < B → w'.cell? p = w.cell? p) : Reads w' B size A n xs where
  len := h.len
  lies hn := by
    obtain ⟨ad, e, hb, hc⟩ := h.lies hn
    refine ⟨ad, e, hb, fun j u hu => ?_⟩
    rw [hk _ (by rwa [add_block])]
    exact hc j u hu
theorem Reads.more (h : Reads w B size A n xs) (hB : B ≤ B') : Reads w B' size A n xs where
  len := h.len
  lies hn := by
    obtain ⟨ad, e, hb, hc⟩ := h.lies hn
    exact ⟨ad, e, Nat.lt_of_lt_of_le hb hB, hc⟩
theorem Reads.below (h : Reads w B size A n xs) (hb : Below B w w') : Reads w' B size A n xs := h.keep fun _ => hb.cell
theorem Reads.drewN (h : Reads w B size A n xs) (k : Nat) : Reads (w.drewN k) B size A n xs := ⟨h.len, h.lies⟩
theorem Reads.drew (h : Reads w B size A n xs) : Reads w.drew B size A n xs := ⟨h.len, h.lies⟩
theorem Reads.alloc (h : Reads w B size A n xs) (hB : B ≤ w.heap.size) (o : Obj) : Reads (w.alloc o) B size A n xs :=
  h.keep fun p hp => World.cell?_alloc_lt w o p (Nat.lt_of_lt_of_le hp hB)
theorem Reads.setCell (h : Reads w B size A n xs) {p : Addr} (hB : B ≤ p.block) (u : Value) : Reads (w.setCell p u) B size A n xs :=
  h.keep fun q hq => World.cell?_setCell_other w p q u (by rintro rfl; omega)
theorem Reads.grown (h : Reads w B size A n xs) {row : Option Nat} (hg : w.grownBy w' row) (hB : B ≤ w.heap.size) (hr : ∀ g, row = some g → B ≤ g) : Reads w' B size A n xs :=
  h.keep fun p hp => World.cell?_of_block (hg.block p.block (by omega) fun e => by have := hr p.block e.symm; omega)
/-- what a call owns can be read -/
theorem Reads.of_own {base : Nat} {e : TypeId} {c : Nat} (h : w.ownsRow base e size (.slice A n c) n xs) : Reads w w.heap.size size A n xs where
  len := h.1
  lies hn := by
    obtain ⟨g, cap, hv, _, hlt⟩ := h.form hn
    simp only [Value.slice.injEq] at hv
    obtain ⟨rfl, -, -⟩ := hv
    exact ⟨⟨g, 0, none⟩, rfl, hlt, h.cells (g := g) rfl⟩
end

/-- block g is just these cells, none of them frozen -/
def Blk (w : World) (g : Nat) (t : TypeId) (cs : Array Value) : Prop := w.heap[g]? = some (.cells cs t (0, 0))

section
variable {w w' : World} {g : Nat} {t : TypeId} {cs : Array Value}
theorem Blk.lt (h : Blk w g t cs) : g < w.heap.size := (Array.getElem?_eq_some_iff.1 h).1
theorem Blk.cell (h : Blk w g t cs) (i : Nat) : w.cell? ⟨g, i, none⟩ = cs[i]? := cell_of_row w g i cs t (0, 0) h
theorem Blk.frozen (h : Blk w g t cs) (i : Nat) : w.frozen? ⟨g, i, none⟩ = false := by
  have h' : w.heap[g]? = some (.cells cs t (0, 0)) := h
  simp [World.frozen?, h']
theorem Blk.new (w : World) (t : TypeId) (cs : Array Value) : Blk (w.alloc (.cells cs t)) w.heap.size t cs := heap_alloc_new w _
theorem Blk.drewN (h : Blk w g t cs) (n : Nat) : Blk (w.drewN n) g t cs := h
theorem Blk.drew (h : Blk w g t cs) : Blk w.drew g t cs := h
theorem Blk.alloc (h : Blk w g t cs) (o : Obj) : Blk (w.alloc o) g t cs := (Below.heap_alloc w o g h.lt).trans h
theorem Blk.set_ (h : Blk w g t cs) (i : Nat) (u : Value) : Blk (w.setCell ⟨g, i, none⟩ u) g t (cs.setIfInBounds i u) := by
  have h' : w.heap[g]? = some (.cells cs t (0, 0)) := h
  show (w.setCell ⟨g, i, none⟩ u).heap[g]? = _
  simp [World.setCell, Array.getElem?_modify, h']
theorem Blk.far (h : Blk w g t cs) {p : Addr} (hp : g ≠ p.block) (u : Value) : Blk (w.setCell p u) g t cs := (Below.heap_setCell w p u g hp).trans h
theorem Blk.below {B : Nat} (h : Blk w g t cs) (hb : Below B w w') (hg : g < B) : Blk w' g t cs := (hb.block g hg).trans h
theorem Blk.grown {row : Option Nat} (h : Blk w g t cs) (hb : w.grownBy w' row) (hg : some g ≠ row) : Blk w' g t cs := (hb.block g h.lt hg).trans h
end

/-- a Go int -/
def I64 (z : Int) : Prop := -9223372036854775808 ≤ z ∧ z ≤ 9223372036854775807
theorem below_drewN {B : Nat} {a w : World} (h : Below B a w) (n : Nat) : Below B a (w.drewN n) := ⟨h.os, h.tape, h.output, h.size, h.block⟩
/-- the append's own row does not lie below the base -/
theorem below_app {B : Nat} {a w w' : World} {v : Value} {base n size : Nat} {e : TypeId} {xs : List Value} (h : Below B a w) (hown : w.ownsRow base e size v n xs) (hg : w.grownBy w' v.ownBlock) (hB : B ≤ w.heap.size) (hbase : B ≤ base) : Below B a w' :=
  h.grown hg hB fun k hk => by have := hown.lt k hk; omega
theorem own_form {w : World} {base : Nat} {e : TypeId} {size : Nat} {v : Value} {n : Nat} {xs : List Value} (h : w.ownsRow base e size v n xs) : ∃ V c, v = .slice V n c := by
  rcases h.2 with ⟨rfl, rfl⟩ | ⟨g, cap, _, rfl, _⟩
  · exact ⟨_, _, rfl⟩
  · exact ⟨_, _, rfl⟩
theorem grown_of_below {w w' : World} (h : Below w.heap.size w w') (row : Option Nat) : w.grownBy w' row := ⟨h.os, h.tape, h.output, h.size, fun k hk _ => h.block k hk⟩
theorem own_below {w w' : World} {base : Nat} {e : TypeId} {size : Nat} {v : Value} {n : Nat} {xs : List Value} (h : w.ownsRow base e size v n xs) (hb : Below w.heap.size w w') : w'.ownsRow base e size v n xs :=
  h.kept (grown_of_below hb none) (by cases h' : v.ownBlock <;> simp)
theorem own_far {w w' : World} {base : Nat} {e : TypeId} {size : Nat} {v : Value} {n : Nat} {xs : List Value} (h : w.ownsRow base e size v n xs) {g : Nat} (hg : w.grownBy w' (some g)) (hlt : g < base) : w'.ownsRow base e size v n xs :=
  h.kept hg (.inr fun e => by have := h.lt g e; omega)
theorem own_ne {w : World} {base : Nat} {e : TypeId} {size : Nat} {v : Value} {n : Nat} {xs : List Value} (h : w.ownsRow base e size v n xs) {b : Nat} (hb : b < base) : some b ≠ v.ownBlock := fun e => absurd (h.lt _ e.symm).1 (by omega)
theorem getElem?_lt {α : Type} {l : List α} {k : Nat} {x : α} (h : l[k]? = some x) : k < l.length := (List.getElem?_eq_some_iff.1 h).1
theorem take_succ_of {α : Type} {l : List α} {k : Nat} {x : α} (h : l[k]? = some x) : l.take (k + 1) = l.take k ++ [x] := by
  rw [List.take_add_one, h]; rfl
theorem ret_int {k : IntKind} {a b : Int} (h : a = b) : Ending.returned (.int k a) = .returned (.int k b) := by rw [h]
theorem ret_bool {a b : Bool} (h : a = b) : Ending.returned (.bool a) = .returned (.bool b) := by rw [h]
/-- make([]T, n, c): what run_make says, at numbers that are not below 0 -/
theorem made_run {P : Program} {t e : TypeId} {i : TypeInfo} {z : Value} (ht : P.underlying t = some (.slice e)) (hi : P.info? e = some i) (hz : i.zero = some z)
    (kl kc : IntKind) {n c : Nat} (hnc : n ≤ c) (hb : (i.bytes : Int) * (c : Int) ≤ 281474976710656) (hc : c ≤ 9223372036854775807) (w : World) :
    (Instr.makeSlice t (.int kl (n : Int)) (.int kc (c : Int))).run P w = .ok (.slice (some ⟨w.heap.size, 0, none⟩) n c) (w.alloc (.cells (madeCells z.cells (c * i.size)) e)) := by
  simpa using run_make (P := P) w t e i z ht hi hz kl kc (n : Int) (c : Int) (by omega) (by omega) hb (by omega)
theorem blk_at {w : World} {g : Nat} {t : TypeId} {cs : Array Value} (h : g = w.heap.size) : Blk (w.alloc (.cells cs t)) g t cs := by rw [h]; exact Blk.new w t cs
theorem Reads.on {w w' : World} {size n C : Nat} {A : Option Addr} {xs : List Value} (h : Reads w w.heap.size size A n xs) (hb : Below C w w') (hC : w.heap.size ≤ C) : Reads w' w'.heap.size size A n xs := (h.below (hb.mono hC)).more hb.size
end Go.Proofs.YtkmcnekjimobhaaDoor
namespace Go.Proofs.YtkmcnekjimobhaaDoor
open Go.RowKit

/-- an expression: kind, the four words of its set, its text, its kids -/
inductive Ex where
  | mk (k a b c d : Int) (t : ByteArray) (ks : List Ex)

theorem Ex.ind {P : Ex → Prop} (h : ∀ k a b c d t ks, (∀ e ∈ ks, P e) → P (.mk k a b c d t ks)) (e : Ex) : P e := by
  refine Ex.rec (motive_1 := P) (motive_2 := fun ks => ∀ e ∈ ks, P e) ?_ ?_ ?_ e
  · exact fun k a b c d t ks ih => h k a b c d t ks ih
  · exact fun e he => by cases he
  · intro e es h1 h2 e' he
    rcases List.mem_cons.1 he with rfl | he
    · exact h1
    · exact h2 _ he

/-- the cells of an expression, and that all below it can be read below block B -/
inductive ExIs (w : World) (B : Nat) : Ex → List Value → Prop
  | mk (k a b c d : Int) (t : ByteArray) (ks : List Ex) (A : Option Addr) (cp : Nat) (row : Nat → List Value) :
      t.size ≤ maxLen → ks.length ≤ cp → cp ≤ maxLen → (A = none → cp = 0) → (0 < ks.length → ∃ ad : Addr, A = some ad ∧ ad.block < B) →
      (∀ i e, ks[i]? = some e → ExIs w B e (row i)) →
      (∀ i e ad, ks[i]? = some e → A = some ad → ∀ j u, (row i)[j]? = some u → w.cell? ((ad.add (i * 7)).add j) = some u) →
      ExIs w B (.mk k a b c d t ks) [.int .i64 k, .int .u64 a, .int .u64 b, .int .u64 c, .int .u64 d, .string t, .slice A ks.length cp]

theorem ExIs.keep {w w' : World} {B B' : Nat} {e : Ex} {cs : List Value} (h : ExIs w B e cs) (hB : B ≤ B') (hk : ∀ p : Addr, p.block < B → w'.cell? p = w.cell? p) : ExIs w' B' e cs := by
  induction h with
  | mk k a b c d t ks A cp row ht hl hm hn hb hr hc ih =>
    refine .mk k a b c d t ks A cp row ht hl hm hn (fun h0 => ?_) ih fun i e ad he hA j u hu => ?_
    · obtain ⟨ad, e, h1⟩ := hb h0
      exact ⟨ad, e, Nat.lt_of_lt_of_le h1 hB⟩
    · obtain ⟨ad', e', h1⟩ := hb (by have := getElem?_lt he; omega)
      rw [hA] at e'
      injection e' with e'
      subst e'
      rw [hk _ (by rw [add_block, add_block]; exact h1)]
      exact hc i e ad he hA j u hu
theorem ExIs.on {w w' : World} {B : Nat} {e : Ex} {cs : List Value} (h : ExIs w B e cs) (hb : Below B w w') : ExIs w' B e cs := h.keep (Nat.le_refl _) fun _ => hb.cell
end Go.Proofs.YtkmcnekjimobhaaDoor
namespace Go.Proofs.YtkmcnekjimobhaaDoor
open Go.RowKit

/-- the byte at place k, as a number -/
def bt (l : List UInt8) (k : Nat) : Nat := (l.getD k 0).toNat
theorem bt_of {s : ByteArray} {k : Nat} (h : k < s.size) : s[k].toNat = bt s.data.toList k := by
  have h' : k < s.data.toList.length := by simpa using h
  unfold bt
  rw [List.getD_eq_getElem?_getD, List.getElem?_eq_getElem h']
  rfl
theorem bt_lt (l : List UInt8) (k : Nat) : bt l k < 256 := (l.getD k 0).toNat_lt

theorem size_list (s : ByteArray) : s.data.toList.length = s.size := by simp

end Go.Proofs.YtkmcnekjimobhaaDoor
namespace Go.Proofs.YtkmcnekjimobhaaDoor
open Go.RowKit

/-- a letter or a digit, as a number -/
def isLet (c : Nat) : Bool := decide (97 ≤ c ||| 32) && decide (c ||| 32 ≤ 122)
def isDig (c : Nat) : Bool := decide (48 ≤ c) && decide (c ≤ 57)
def nameAt (l : List UInt8) (i : Nat) : Bool := isLet (bt l i) || (i != 0 && isDig (bt l i))
def nameB (l : List UInt8) : Bool := decide (l ≠ []) && decide (l.length ≤ 8) && (List.range l.length).all (nameAt l)

theorem or32 (c : Nat) (h : c < 256) : bits .or .u8 (c : Int) 32 = ((c ||| 32 : Nat) : Int) := by
  have h' : ∀ n : Fin 256, bits .or .u8 ((n : Nat) : Int) 32 = (((n : Nat) ||| 32 : Nat) : Int) := by decide +kernel
  exact h' ⟨c, h⟩
theorem name_no {l : List UInt8} {k : Nat} (hk : k < l.length) (h : nameAt l k = false) : nameB l = false := by
  unfold nameB
  have : (List.range l.length).all (nameAt l) = false := by
    rw [List.all_eq_false]
    exact ⟨k, by simpa using hk, by simp [h]⟩
  rw [this, Bool.and_false]
theorem name_yes {l : List UInt8} (h0 : l ≠ []) (h8 : l.length ≤ 8) (h : ∀ i, i < l.length → nameAt l i = true) : nameB l = true := by
  unfold nameB
  simp [h0, h8]
  exact h

theorem name_any (s : ByteArray) (w : World) : Calls Tryd.prog 58 #[.string s] w fun e w' => e = .returned (.bool (nameB s.data.toList)) ∧ w = w' := by
  have HL := Lib.hid (size_list s)
  by_cases h0 : s.size = 0
  · have he : s.toList = [] := by rw [ByteArray.toList_eq]; exact List.eq_nil_of_length_eq_zero (by rw [HL.out]; exact h0)
    have he' : (!s.toList.isEmpty) = false := by rw [he]; rfl
    have HF : Hid (nameB s.data.toList = false) := by
      show _ = _
      rw [List.eq_nil_of_length_eq_zero (HL.out.trans h0)]; rfl
    go_enter Tryd.func58, Tryd.ntmps58
    go_wp2
    go_ret
    exact ⟨ret_bool HF.out.symm, rfl⟩
  have hne : s.data.toList ≠ [] := fun h => h0 (by rw [← HL.out, h]; rfl)
  have he : s.toList.isEmpty = false := by rw [ByteArray.toList_eq]; cases h : s.data.toList with
    | nil => exact absurd h hne
    | cons _ _ => rfl
  have HNE := Lib.hid hne
  clear hne
  by_cases h8 : 8 < s.size
  · have HF : Hid (nameB s.data.toList = false) := by
      show _ = _
      unfold nameB; rw [HL.out]; simp; omega
    go_enter Tryd.func58, Tryd.ntmps58
    go_wp2
    go_ret
    exact ⟨ret_bool HF.out.symm, rfl⟩
  go_enter Tryd.func58, Tryd.ntmps58
  go_wp2
  go_loop [3, 4, 14] (fun _ _ i => ∃ k : Nat, k ≤ s.size ∧ i = .int .i64 k ∧ ∀ j, j < k → nameAt s.data.toList j = true) (fun _ _ i => s.size - (intOf i).toNat)
  case atStart => exact ⟨0, by omega, rfl, fun j h => by omega⟩
  case round =>
    obtain ⟨k, hk, rfl, hr⟩ := hrel
    have HR := Lib.hid hr
    clear hr
    by_cases hkn : k < s.size
    · have hb := bt_of hkn
      have hor := or32 (bt s.data.toList k) (bt_lt _ _)
      have HA : Hid (nameAt s.data.toList k = (isLet (bt s.data.toList k) || (k != 0 && isDig (bt s.data.toList k)))) := by exact rfl
      generalize hc : bt s.data.toList k = c at hb hor HA
      generalize hd : c ||| 32 = d at hor
      have HLt : Hid (isLet c = (decide (97 ≤ d) && decide (d ≤ 122))) := by show _ = _; rw [← hd]; rfl
      clear hc hd
      have hcase : nameAt s.data.toList k = true ∨ nameAt s.data.toList k = false := by cases nameAt s.data.toList k <;> simp
      by_cases h1 : 97 ≤ d
      · have i1 : ((97 : Int) ≤ (d : Int)) := by omega
        by_cases h2 : d ≤ 122
        · have i2 : ((d : Int) ≤ 122) := by omega
          have HY : Hid (nameAt s.data.toList k = true) := by show _ = _; rw [HA.out, HLt.out]; simp [h1, h2]
          go_wp2
          go_round
          case rel => exact ⟨k + 1, by omega, by go_num, fun j hj => by
            by_cases hjk : j < k
            · exact HR.out j hjk
            · obtain rfl : j = k := by omega
              exact HY.out⟩
          case measure => simp [intOf]; omega
        · have i2 : (((d : Int) ≤ 122)) = False := by simp; omega
          have HN : Hid (isLet c = false) := by show _ = _; rw [HLt.out]; simp; omega
          by_cases hk0 : k = 0
          · subst hk0
            have HY : Hid (nameB s.data.toList = false) := name_no (k := 0) (by rw [HL.out]; omega) (by rw [HA.out, HN.out]; rfl)
            go_wp2
            go_ret
            exact ⟨ret_bool HY.out.symm, rfl⟩
          have bk0 : (((k : Nat) : Int) == 0) = false := by rw [beq_eq_false_iff_ne]; omega
          have bk1 : (k != 0) = true := by rw [bne_iff_ne]; exact hk0
          by_cases h3 : c < 48
          · have i3 : ((c : Int) < 48) := by omega
            have HY : Hid (nameB s.data.toList = false) := name_no (k := k) (by rw [HL.out]; omega) (by rw [HA.out, HN.out]; simp [isDig]; omega)
            go_wp2
            go_ret
            exact ⟨ret_bool HY.out.symm, rfl⟩
          · have i3 : ((c : Int) < 48) = False := by simp; omega
            by_cases h4 : 57 < c
            · have i4 : ((57 : Int) < (c : Int)) := by omega
              have HY : Hid (nameB s.data.toList = false) := name_no (k := k) (by rw [HL.out]; omega) (by rw [HA.out, HN.out]; simp [isDig]; omega)
              go_wp2
              go_ret
              exact ⟨ret_bool HY.out.symm, rfl⟩
            · have i4 : ((57 : Int) < (c : Int)) = False := by simp; omega
              have HY : Hid (nameAt s.data.toList k = true) := by show _ = _; rw [HA.out, HN.out]; simp [isDig, bk1]; omega
              go_wp2
              go_round
              case rel => exact ⟨k + 1, by omega, by go_num, fun j hj => by
                by_cases hjk : j < k
                · exact HR.out j hjk
                · obtain rfl : j = k := by omega
                  exact HY.out⟩
              case measure => simp [intOf]; omega
      · have i1 : (((97 : Int) ≤ (d : Int))) = False := by simp; omega
        have HN : Hid (isLet c = false) := by show _ = _; rw [HLt.out]; simp; omega
        by_cases hk0 : k = 0
        · subst hk0
          have HY : Hid (nameB s.data.toList = false) := name_no (k := 0) (by rw [HL.out]; omega) (by rw [HA.out, HN.out]; rfl)
          go_wp2
          go_ret
          exact ⟨ret_bool HY.out.symm, rfl⟩
        have bk0 : (((k : Nat) : Int) == 0) = false := by rw [beq_eq_false_iff_ne]; omega
        have bk1 : (k != 0) = true := by rw [bne_iff_ne]; exact hk0
        by_cases h3 : c < 48
        · have i3 : ((c : Int) < 48) := by omega
          have HY : Hid (nameB s.data.toList = false) := name_no (k := k) (by rw [HL.out]; omega) (by rw [HA.out, HN.out]; simp [isDig]; omega)
          go_wp2
          go_ret
          exact ⟨ret_bool HY.out.symm, rfl⟩
        · have i3 : ((c : Int) < 48) = False := by simp; omega
          by_cases h4 : 57 < c
          · have i4 : ((57 : Int) < (c : Int)) := by omega
            have HY : Hid (nameB s.data.toList = false) := name_no (k := k) (by rw [HL.out]; omega) (by rw [HA.out, HN.out]; simp [isDig]; omega)
            go_wp2
            go_ret
            exact ⟨ret_bool HY.out.symm, rfl⟩
          · have i4 : ((57 : Int) < (c : Int)) = False := by simp; omega
            have HY : Hid (nameAt s.data.toList k = true) := by show _ = _; rw [HA.out, HN.out]; simp [isDig, bk1]; omega
            go_wp2
            go_round
            case rel => exact ⟨k + 1, by omega, by go_num, fun j hj => by
              by_cases hjk : j < k
              · exact HR.out j hjk
              · obtain rfl : j = k := by omega
                exact HY.out⟩
            case measure => simp [intOf]; omega
    · obtain rfl : k = s.size := by omega
      go_wp2
      go_ret
      exact ⟨ret_bool (name_yes HNE.out (by rw [HL.out]; omega) (by rw [HL.out]; exact HR.out)).symm, rfl⟩
end Go.Proofs.YtkmcnekjimobhaaDoor
namespace Go.Proofs.YtkmcnekjimobhaaDoor
open Go.RowKit

theorem u64_info : (Tryd.prog.info? 60).map (fun i => (i.zero, i.size, i.bytes)) = some (some (.int .u64 0), 1, 8) := by kernel_rfl
theorem u64_cells : Tryd.prog.cellsOf 60 = 1 := by kernel_rfl
theorem part_u64 (w : World) (cs : Array Value) (i : Nat) (x : Int) (h : cs[i]? = some (.int .u64 x)) : (part 60 cs i).run Tryd.prog w = .ok (.int .u64 x) w := by
  have hu := Tryd.underlying60
  simp [part, isAgg, run_underlying hu, h]
theorem run_eq_u64 (w : World) (d : Nat) (a b : Int) : (Op.equalIn (d + 1) 60 (.int .u64 a) (.int .u64 b)).run Tryd.prog w = .ok (a == b) w := run_equalIn_int w d _ .u64 .u64 a b Tryd.underlying60
/-- sets are compared word by word -/
theorem run_same_set (w : World) (a b c d a' b' c' d' : Int) : (Op.equalIn 10000 62 (.agg #[.int .u64 a, .int .u64 b, .int .u64 c, .int .u64 d]) (.agg #[.int .u64 a', .int .u64 b', .int .u64 c', .int .u64 d'])).run Tryd.prog w = .ok (a == a' && (b == b' && (c == c' && d == d'))) w := by
  obtain ⟨i, hi, _⟩ := info_parts u64_info
  show (Op.equalIn (9999 + 1) 62 _ _).run Tryd.prog w = _
  rw [run_equalIn_array w 9999 _ _ Tryd.underlying62 hi, u64_cells]
  show (Op.eqItems (9998 + 1) 60 1 _ _ [0, 1, 2, 3]).run _ _ = _
  generalize 9998 = n
  simp only [Op.eqItems, Sem.run_bind, part_u64 w #[.int .u64 a, .int .u64 b, .int .u64 c, .int .u64 d] (0 * 1) a rfl, part_u64 w #[.int .u64 a, .int .u64 b, .int .u64 c, .int .u64 d] (1 * 1) b rfl, part_u64 w #[.int .u64 a, .int .u64 b, .int .u64 c, .int .u64 d] (2 * 1) c rfl, part_u64 w #[.int .u64 a, .int .u64 b, .int .u64 c, .int .u64 d] (3 * 1) d rfl,
    part_u64 w #[.int .u64 a', .int .u64 b', .int .u64 c', .int .u64 d'] (0 * 1) a' rfl, part_u64 w #[.int .u64 a', .int .u64 b', .int .u64 c', .int .u64 d'] (1 * 1) b' rfl, part_u64 w #[.int .u64 a', .int .u64 b', .int .u64 c', .int .u64 d'] (2 * 1) c' rfl, part_u64 w #[.int .u64 a', .int .u64 b', .int .u64 c', .int .u64 d'] (3 * 1) d' rfl, run_eq_u64, Result.andThen_ok, Sem.run_ite, Sem.run_pure]
  cases a == a' <;> cases b == b' <;> cases c == c' <;> cases d == d' <;> simp
end Go.Proofs.YtkmcnekjimobhaaDoor
namespace Go.Proofs.YtkmcnekjimobhaaDoor
open Go.RowKit

/-- how many kids a kind of node may have -/
def lims (k : Int) (t : List UInt8) : Option (Nat × Nat) :=
  if k = 1 ∨ k = 2 then some (0, 0)
  else if k = 3 then (if t ≠ [] ∧ t.length ≤ 12 then some (0, 0) else none)
  else if k = 4 then (if nameB t = true then some (0, 0) else none)
  else if k = 5 ∨ k = 6 then some (2, 8)
  else if 7 ≤ k ∧ k ≤ 11 then some (1, 1)
  else none
def fitB (k a b c d : Int) (t : List UInt8) (n : Nat) : Bool :=
  match lims k t with
  | none => false
  | some (lo, hi) => (decide (k = 3 ∨ k = 4) || decide (t = [])) && (decide (k = 2) || (a == 0 && (b == 0 && (c == 0 && d == 0)))) && decide (lo ≤ n) && decide (n ≤ hi)

/-- an expression's cells -/
def exCells (k a b c d : Int) (t : ByteArray) (A : Option Addr) (n cp : Nat) : List Value := [.int .i64 k, .int .u64 a, .int .u64 b, .int .u64 c, .int .u64 d, .string t, .slice A n cp]

set_option linter.unusedSimpArgs false in
set_option maxHeartbeats 8000000 in
set_option maxRecDepth 100000 in
theorem fit_any (k a b c d : Int) (t : ByteArray) (A : Option Addr) (n cp : Nat) (w : World) :
    Calls Tryd.prog 92 #[.agg #[.int .i64 k, .int .u64 a, .int .u64 b, .int .u64 c, .int .u64 d, .string t, .slice A n cp]] w fun e w' => e = .returned (.bool (fitB k a b c d t.data.toList n)) ∧ Below w.heap.size w w' := by
  have HL := Lib.hid (size_list t)
  have hq := fun w => run_same_set w a b c d 0 0 0 0
  generalize hz : (a == 0 && (b == 0 && (c == 0 && d == 0))) = z at hq
  have HF : Hid (fitB k a b c d t.data.toList n = match lims k t.data.toList with
    | none => false
    | some (lo, hi) => (decide (k = 3 ∨ k = 4) || decide (t.data.toList = [])) && (decide (k = 2) || z) && decide (lo ≤ n) && decide (n ≤ hi)) := by show _ = _; rw [← hz]; rfl
  clear hz
  by_cases h12 : k ∈ [1, 2, 5, 6, 7, 8, 9, 10, 11]
  · simp only [List.mem_cons, List.not_mem_nil, or_false] at h12
    by_cases ht : t.size = 0
    · have he : t.toList = [] := by rw [ByteArray.toList_eq]; exact List.eq_nil_of_length_eq_zero (by rw [HL.out]; exact ht)
      have he' : (!t.toList.isEmpty) = false := by rw [he]; rfl
      have hd : t.data.toList = [] := List.eq_nil_of_length_eq_zero (by rw [HL.out]; exact ht)
      rw [hd] at HF ⊢
      clear he hd
      by_cases hz : k = 2 ∨ z = true
      · by_cases hlo : (if k = 1 ∨ k = 2 then 0 else if k = 5 ∨ k = 6 then 2 else 1) ≤ n
        · rcases h12 with rfl | rfl | rfl | rfl | rfl | rfl | rfl | rfl | rfl <;> simp at hlo hz
          all_goals
            try subst hz
            try subst hlo
            go_enter Tryd.func92, Tryd.ntmps92
            go_wp2
            go_ret
            refine ⟨ret_bool ?_, (by repeat (first | exact Below.refl _ _ | assumption | refine Below.drew ?_ | refine below_drewN ?_ _ | refine Below.alloc ?_ (by first | omega | (simp; omega) | simp) _ | refine Below.setCell ?_ (by first | omega | (simp; omega) | simp) _))⟩
            first | exact HF.out.symm | (rw [HF.out]; simp only [lims, Int.reduceEq, Int.reduceLE, or_false, false_or, or_true, true_or, if_true, if_false, and_self, and_true, true_and]; first | (simp [*]; done) | (simp [*]; omega))
        · rcases h12 with rfl | rfl | rfl | rfl | rfl | rfl | rfl | rfl | rfl <;> simp at hlo hz
          all_goals
            try subst hz
            try subst hlo
            go_enter Tryd.func92, Tryd.ntmps92
            go_wp2
            go_ret
            refine ⟨ret_bool ?_, (by repeat (first | exact Below.refl _ _ | assumption | refine Below.drew ?_ | refine below_drewN ?_ _ | refine Below.alloc ?_ (by first | omega | (simp; omega) | simp) _ | refine Below.setCell ?_ (by first | omega | (simp; omega) | simp) _))⟩
            first | exact HF.out.symm | (rw [HF.out]; simp only [lims, Int.reduceEq, Int.reduceLE, or_false, false_or, or_true, true_or, if_true, if_false, and_self, and_true, true_and]; first | (simp [*]; done) | (simp [*]; omega))
      · obtain rfl : z = false := by cases z <;> simp_all
        rcases h12 with rfl | rfl | rfl | rfl | rfl | rfl | rfl | rfl | rfl <;> simp at hz
        all_goals
          go_enter Tryd.func92, Tryd.ntmps92
          go_wp2
          go_ret
          refine ⟨ret_bool ?_, (by repeat (first | exact Below.refl _ _ | assumption | refine Below.drew ?_ | refine below_drewN ?_ _ | refine Below.alloc ?_ (by first | omega | (simp; omega) | simp) _ | refine Below.setCell ?_ (by first | omega | (simp; omega) | simp) _))⟩
          first | exact HF.out.symm | (rw [HF.out]; simp only [lims, Int.reduceEq, Int.reduceLE, or_false, false_or, or_true, true_or, if_true, if_false, and_self, and_true, true_and]; first | (simp [*]; done) | (simp [*]; omega))
    · have hd : t.data.toList ≠ [] := fun h => ht (by rw [← HL.out, h]; rfl)
      have he : t.toList.isEmpty = false := by rw [ByteArray.toList_eq]; cases h : t.data.toList with
        | nil => exact absurd h hd
        | cons _ _ => rfl
      rcases h12 with rfl | rfl | rfl | rfl | rfl | rfl | rfl | rfl | rfl
      all_goals
        go_enter Tryd.func92, Tryd.ntmps92
        go_wp2
        go_ret
        refine ⟨ret_bool ?_, (by repeat (first | exact Below.refl _ _ | assumption | refine Below.drew ?_ | refine below_drewN ?_ _ | refine Below.alloc ?_ (by first | omega | (simp; omega) | simp) _ | refine Below.setCell ?_ (by first | omega | (simp; omega) | simp) _))⟩
        first | exact HF.out.symm | (rw [HF.out]; simp only [lims, Int.reduceEq, Int.reduceLE, or_false, false_or, or_true, true_or, if_true, if_false, and_self, and_true, true_and]; first | (simp [*]; done) | (simp [*]; omega))
  · simp only [List.mem_cons, List.not_mem_nil, or_false] at h12
    by_cases h3 : k = 3
    · subst h3
      by_cases ht : t.size = 0
      · have he : t.toList = [] := by rw [ByteArray.toList_eq]; exact List.eq_nil_of_length_eq_zero (by rw [HL.out]; exact ht)
        have he' : (!t.toList.isEmpty) = false := by rw [he]; rfl
        have hd : t.data.toList = [] := List.eq_nil_of_length_eq_zero (by rw [HL.out]; exact ht)
        rw [hd] at HF ⊢
        clear hd h12
        rw [show lims 3 [] = none from rfl] at HF
        go_enter Tryd.func92, Tryd.ntmps92
        go_wp2
        go_ret
        refine ⟨ret_bool ?_, (by repeat (first | exact Below.refl _ _ | assumption | refine Below.drew ?_ | refine below_drewN ?_ _ | refine Below.alloc ?_ (by first | omega | (simp; omega) | simp) _ | refine Below.setCell ?_ (by first | omega | (simp; omega) | simp) _))⟩
        first | exact HF.out.symm | (rw [HF.out]; simp only [lims, Int.reduceEq, Int.reduceLE, or_false, false_or, or_true, true_or, if_true, if_false, and_self, and_true, true_and]; first | (simp [*]; done) | (simp [*]; omega))
      · have hd : t.data.toList ≠ [] := fun h => ht (by rw [← HL.out, h]; rfl)
        have he : t.toList.isEmpty = false := by rw [ByteArray.toList_eq]; cases h : t.data.toList with
          | nil => exact absurd h hd
          | cons _ _ => rfl
        have hl : t.data.toList.length = t.size := HL.out
        by_cases h12' : 12 < t.size
        · clear h12
          rw [show lims 3 t.data.toList = none by unfold lims; rw [hl]; simp; omega] at HF
          go_enter Tryd.func92, Tryd.ntmps92
          go_wp2
          go_ret
          refine ⟨ret_bool ?_, (by repeat (first | exact Below.refl _ _ | assumption | refine Below.drew ?_ | refine below_drewN ?_ _ | refine Below.alloc ?_ (by first | omega | (simp; omega) | simp) _ | refine Below.setCell ?_ (by first | omega | (simp; omega) | simp) _))⟩
          first | exact HF.out.symm | (rw [HF.out]; simp only [lims, Int.reduceEq, Int.reduceLE, or_false, false_or, or_true, true_or, if_true, if_false, and_self, and_true, true_and]; first | (simp [*]; done) | (simp [*]; omega))
        · have hle : t.size ≤ 12 := by omega
          clear h12
          rw [show lims 3 t.data.toList = some (0, 0) by unfold lims; rw [hl]; simp; exact ⟨by simpa using hd, hle⟩] at HF
          cases z
          all_goals
            go_enter Tryd.func92, Tryd.ntmps92
            go_wp2
            go_ret
            refine ⟨ret_bool ?_, (by repeat (first | exact Below.refl _ _ | assumption | refine Below.drew ?_ | refine below_drewN ?_ _ | refine Below.alloc ?_ (by first | omega | (simp; omega) | simp) _ | refine Below.setCell ?_ (by first | omega | (simp; omega) | simp) _))⟩
            first | exact HF.out.symm | (rw [HF.out]; simp only [lims, Int.reduceEq, Int.reduceLE, or_false, false_or, or_true, true_or, if_true, if_false, and_self, and_true, true_and]; first | (simp [*]; done) | (simp [*]; omega))
    · by_cases h4 : k = 4
      · subst h4
        clear h12 h3
        cases hn : nameB t.data.toList
        · go_enter Tryd.func92, Tryd.ntmps92
          go_wp2_with (go_at_call 58; refine (name_any _ _).mono ?_; rintro e w' ⟨rfl, rfl⟩)
          go_ret
          refine ⟨ret_bool ?_, (by repeat (first | exact Below.refl _ _ | assumption | refine Below.drew ?_ | refine below_drewN ?_ _ | refine Below.alloc ?_ (by first | omega | (simp; omega) | simp) _ | refine Below.setCell ?_ (by first | omega | (simp; omega) | simp) _))⟩
          first | exact HF.out.symm | (rw [HF.out]; simp only [lims, Int.reduceEq, Int.reduceLE, or_false, false_or, or_true, true_or, if_true, if_false, and_self, and_true, true_and]; first | (simp [*]; done) | (simp [*]; omega))
        · cases z
          all_goals
            go_enter Tryd.func92, Tryd.ntmps92
            go_wp2_with (go_at_call 58; refine (name_any _ _).mono ?_; rintro e w' ⟨rfl, rfl⟩)
            go_ret
            refine ⟨ret_bool ?_, (by repeat (first | exact Below.refl _ _ | assumption | refine Below.drew ?_ | refine below_drewN ?_ _ | refine Below.alloc ?_ (by first | omega | (simp; omega) | simp) _ | refine Below.setCell ?_ (by first | omega | (simp; omega) | simp) _))⟩
            first | exact HF.out.symm | (rw [HF.out]; simp only [lims, Int.reduceEq, Int.reduceLE, or_false, false_or, or_true, true_or, if_true, if_false, and_self, and_true, true_and]; first | (simp [*]; done) | (simp [*]; omega))
      · have hl : lims k t.data.toList = none := by
          unfold lims
          rw [if_neg (by omega), if_neg h3, if_neg h4, if_neg (by omega), if_neg (by omega)]
        rw [hl] at HF
        clear hl
        simp only [not_or] at h12
        obtain ⟨k1, k2, k5, k6, k7, k8, k9, k10, k11⟩ := h12
        go_enter Tryd.func92, Tryd.ntmps92
        go_wp2
        go_ret
        exact ⟨ret_bool HF.out.symm, (by repeat (first | exact Below.refl _ _ | assumption | refine Below.drew ?_ | refine below_drewN ?_ _ | refine Below.alloc ?_ (by first | omega | (simp; omega) | simp) _ | refine Below.setCell ?_ (by first | omega | (simp; omega) | simp) _))⟩
end Go.Proofs.YtkmcnekjimobhaaDoor
namespace Go.Proofs.YtkmcnekjimobhaaDoor
open Go.RowKit

mutual
/-- how a looker that has counted n goes through a node at this depth: what went wrong, and what it has counted then -/
def lookN : Ex → Nat → Nat → Int × Nat
  | .mk k a b c d t ks, n, deep =>
    if 60 < n + 1 then (2, n + 1) else if 12 < deep then (5, n + 1) else if fitB k a b c d t.data.toList ks.length = false then (3, n + 1) else looks ks (n + 1) (deep + 1)
def looks : List Ex → Nat → Nat → Int × Nat
  | [], n, _ => (0, n)
  | e :: es, n, deep => if (lookN e n deep).1 = 0 then looks es (lookN e n deep).2 deep else lookN e n deep
end

theorem fit_len {k a b c d : Int} {t : List UInt8} {n : Nat} (h : fitB k a b c d t n = true) : n ≤ 8 := by
  unfold fitB at h
  split at h
  · cases h
  · rename_i lo hi hl
    have h2 : n ≤ hi := by
      simp only [Bool.and_eq_true, decide_eq_true_eq] at h
      exact h.2
    have h3 : hi ≤ 8 := by
      unfold lims at hl
      repeat' split at hl
      all_goals (first | cases hl | skip) <;> omega
    omega
theorem looks_le : ∀ (ks : List Ex) (n deep : Nat), (∀ e ∈ ks, ∀ n deep, n ≤ 60 → (lookN e n deep).2 ≤ 61 ∧ ((lookN e n deep).1 = 0 → (lookN e n deep).2 ≤ 60)) → n ≤ 60 → (looks ks n deep).2 ≤ 61 ∧ ((looks ks n deep).1 = 0 → (looks ks n deep).2 ≤ 60)
  | [], n, deep, _, hn => by simp [looks]; omega
  | e :: es, n, deep, h, hn => by
    have h1 := h e (by simp) n deep hn
    unfold looks
    split
    · rename_i h0
      exact looks_le es _ deep (fun e' he' => h e' (by simp [he'])) (h1.2 h0)
    · exact h1
theorem lookN_le (e : Ex) : ∀ n deep, n ≤ 60 → (lookN e n deep).2 ≤ 61 ∧ ((lookN e n deep).1 = 0 → (lookN e n deep).2 ≤ 60) := by
  refine Ex.ind (P := fun e => ∀ n deep, n ≤ 60 → (lookN e n deep).2 ≤ 61 ∧ ((lookN e n deep).1 = 0 → (lookN e n deep).2 ≤ 60)) ?_ e
  intro k a b c d t ks ih n deep hn
  unfold lookN
  split
  · exact ⟨by simp; omega, fun h => by simp at h⟩
  · split
    · exact ⟨by simp; omega, fun h => by simp at h⟩
    · split
      · exact ⟨by simp; omega, fun h => by simp at h⟩
      · exact looks_le ks _ _ ih (by omega)

/-- what look leaves -/
def LookQ (g : Nat) (r : Int × Nat) (w : World) (e : Ending) (w' : World) : Prop :=
  e = .returned (.int .i64 r.1) ∧ Blk w' g 145 #[.int .i64 r.2] ∧ w.grownBy w' (some g)

theorem grown_cells {w w' : World} {g : Nat} (h : w.grownBy w' (some g)) {B : Nat} (hB : B ≤ g) (hg : g < w.heap.size) (p : Addr) (hp : p.block < B) : w'.cell? p = w.cell? p :=
  World.cell?_of_block (h.block p.block (by omega) fun e => by injection e with e; omega)

theorem grown_set {a w : World} {g i : Nat} (h : a.grownBy w (some g)) (u : Value) : a.grownBy (w.setCell ⟨g, i, none⟩ u) (some g) :=
  ⟨h.os, h.tape, h.output, by simpa [World.setCell] using h.size, fun k hk hne => (Below.heap_setCell w ⟨g, i, none⟩ u k (by rintro rfl; exact hne rfl)).trans (h.block k hk hne)⟩
theorem grown_alloc {a w : World} {r : Option Nat} (h : a.grownBy w r) (o : Obj) : a.grownBy (w.alloc o) r :=
  ⟨h.os, h.tape, h.output, by have := h.size; simp; omega, fun k hk hne => (Below.heap_alloc w o k (Nat.lt_of_lt_of_le hk h.size)).trans (h.block k hk hne)⟩
theorem grown_below {a w w' : World} {r : Option Nat} (h : a.grownBy w r) (hb : Below w.heap.size w w') : a.grownBy w' r :=
  ⟨hb.os.trans h.os, hb.tape.trans h.tape, hb.output.trans h.output, Nat.le_trans h.size hb.size, fun k hk hne => (hb.block k (Nat.lt_of_lt_of_le hk h.size)).trans (h.block k hk hne)⟩
theorem grown_trans {a w w' : World} {r : Option Nat} (h : a.grownBy w r) (h' : w.grownBy w' r) : a.grownBy w' r :=
  ⟨h'.os.trans h.os, h'.tape.trans h.tape, h'.output.trans h.output, Nat.le_trans h.size h'.size, fun k hk hne => (h'.block k (Nat.lt_of_lt_of_le hk h.size) hne).trans (h.block k hk hne)⟩

set_option maxRecDepth 100000 in
theorem look_any (e : Ex) : ∀ (cs : List Value) (w : World) (g n deep B : Nat), ExIs w B e cs → B ≤ g → Blk w g 145 #[.int .i64 n] → n ≤ 60 → deep ≤ 13 →
    Calls Tryd.prog 77 #[.pointer (some ⟨g, 0, none⟩), .agg cs.toArray, .int .i64 deep] w (LookQ g (lookN e n deep) w) := by
  refine Ex.ind (P := fun e => ∀ (cs : List Value) (w : World) (g n deep B : Nat), ExIs w B e cs → B ≤ g → Blk w g 145 #[.int .i64 n] → n ≤ 60 → deep ≤ 13 →
    Calls Tryd.prog 77 #[.pointer (some ⟨g, 0, none⟩), .agg cs.toArray, .int .i64 deep] w (LookQ g (lookN e n deep) w)) ?_ e
  intro k a b c d t ks ih cs w g n deep B he hB hg hn hd
  cases he with
  | mk _ _ _ _ _ _ _ A cp row ht hl hm hnone hb hr hc =>
  have IH := Lib.hid ih
  have HRow := Lib.hid hr
  have HC := Lib.hid hc
  have HBk := Lib.hid hb
  have hgl := hg.lt
  have hc0 : w.cell? ⟨g, 0, none⟩ = some (.int .i64 n) := hg.cell 0
  have hf0 := hg.frozen 0
  clear ih hr hc hb hnone
  have HF : Hid (lookN (.mk k a b c d t ks) n deep = if 60 < n + 1 then (2, n + 1) else if 12 < deep then (5, n + 1) else if fitB k a b c d t.data.toList ks.length = false then (3, n + 1) else looks ks (n + 1) (deep + 1)) := by
    show _ = _
    rw [lookN]
  by_cases h60 : 60 < n + 1
  · have HFF : Hid (lookN (.mk k a b c d t ks) n deep = (2, n + 1)) := HF.out.trans (if_pos h60)
    go_enter Tryd.func77, Tryd.ntmps77
    go_wp2
    go_ret
    exact ⟨by rw [HFF.out]; rfl, (by rw [HFF.out]; exact (hg.set_ 0 _).alloc _), (by first | exact grown_alloc (grown_set (World.grownBy.refl _ _) _) _)⟩
  by_cases h12 : 12 < deep
  · have HFF : Hid (lookN (.mk k a b c d t ks) n deep = (5, n + 1)) := HF.out.trans ((if_neg h60).trans (if_pos h12))
    go_enter Tryd.func77, Tryd.ntmps77
    go_wp2
    go_ret
    exact ⟨by rw [HFF.out]; rfl, (by rw [HFF.out]; exact (hg.set_ 0 _).alloc _), (by first | exact grown_alloc (grown_set (World.grownBy.refl _ _) _) _)⟩
  cases hfit : fitB k a b c d t.data.toList ks.length
  · have HFF : Hid (lookN (.mk k a b c d t ks) n deep = (3, n + 1)) := HF.out.trans ((if_neg h60).trans ((if_neg h12).trans (if_pos hfit)))
    have HFit := Lib.hid hfit
    clear hfit
    go_enter Tryd.func77, Tryd.ntmps77
    go_wp2_with fail
    refine (fit_any k a b c d t A ks.length cp _).mono ?_
    rw [HFit.out]
    rintro e w1 ⟨rfl, hb1⟩
    have hg1 : Blk w1 g 145 #[.int .i64 ((n : Int) + 1)] := ((hg.set_ 0 _).alloc _).below hb1 (by simp; omega)
    have hw1 : w.grownBy w1 (some g) := grown_below (grown_alloc (grown_set (World.grownBy.refl _ _) _) _) hb1
    clear hb1
    go_wp2
    go_ret
    exact ⟨by rw [HFF.out]; rfl, (by rw [HFF.out]; exact hg1), hw1⟩
  have h8 := fit_len hfit
  have HFF : Hid (lookN (.mk k a b c d t ks) n deep = looks ks (n + 1) (deep + 1)) := HF.out.trans ((if_neg h60).trans ((if_neg h12).trans (if_neg (by rw [hfit]; decide))))
  have HFit := Lib.hid hfit
  clear hfit
  go_enter Tryd.func77, Tryd.ntmps77
  go_wp2_with fail
  refine (fit_any k a b c d t A ks.length cp _).mono ?_
  rw [HFit.out]
  rintro e w1 ⟨rfl, hb1⟩
  have hg1 : Blk w1 g 145 #[.int .i64 ((n : Int) + 1)] := ((hg.set_ 0 _).alloc _).below hb1 (by simp; omega)
  have hw1 : w.grownBy w1 (some g) := grown_below (grown_alloc (grown_set (World.grownBy.refl _ _) _) _) hb1
  have hx6 : w1.cell? ⟨w.heap.size, 6, none⟩ = some (.slice A ks.length cp) := by
    rw [hb1.cell (p := ⟨w.heap.size, 6, none⟩) (by simp)]
    exact (blk_at (by simp)).cell 6
  clear hb1 HFit
  go_wp2
  go_loopw [8, 9, 33] (fun _ _ i wr => ∃ j m : Nat, j ≤ ks.length ∧ m ≤ 60 ∧ i = .int .i64 j ∧ Hid (lookN (.mk k a b c d t ks) n deep = looks (ks.drop j) m (deep + 1)) ∧ Blk wr g 145 #[.int .i64 m] ∧ w.grownBy wr (some g)) (fun _ _ i _ => ks.length - (intOf i).toNat)
  case atStart => exact ⟨0, n + 1, by omega, by omega, rfl, HFF, hg1, hw1⟩
  case round =>
    obtain ⟨j, m, hj, hm60, rfl, HR, hgr, hwr⟩ := hrel
    by_cases hjk : j < ks.length
    · have hej : ks[j]? = some ks[j] := List.getElem?_eq_getElem hjk
      generalize ks[j] = ej at hej
      obtain ⟨ad, rfl, hab⟩ := HBk.out (by omega)
      have hgrl := hgr.lt
      have hej2 := (HRow.out j ej hej).keep (Nat.le_refl _) (fun p hp => grown_cells hwr hB hgl p hp)
      have hcj := HC.out j ej ad hej rfl
      have hmem := List.mem_of_getElem? hej
      have HD : Hid (ks.drop j = ej :: ks.drop (j + 1)) := by
        show _ = _
        rw [List.drop_eq_getElem_cons hjk]
        rw [List.getElem?_eq_getElem hjk] at hej
        injection hej with hej
        rw [hej]
      generalize row j = rj at hej2 hcj
      cases ej with
      | mk k' a' b' c' d' t' ks' =>
      have hej3 := hej2
      cases hej2 with
      | mk _ _ _ _ _ _ _ A' cp' row' ht' hl' hm' hnone' hb' hr' hc' =>
      have e0 : wr.cell? (ad.add (j * 7)) = some (.int .i64 k') := by
        rw [grown_cells hwr hB hgl _ (by rw [add_block]; exact hab)]
        exact hcj 0 _ rfl
      have hcc : ∀ i u, [Value.int .i64 k', .int .u64 a', .int .u64 b', .int .u64 c', .int .u64 d', .string t', .slice A' ks'.length cp'][i]? = some u → wr.cell? ((ad.add (j * 7)).add i) = some u := by
        intro i u hu
        rw [grown_cells hwr hB hgl _ (by rw [add_block, add_block]; exact hab)]
        exact hcj i u hu
      have e1 : wr.cell? ⟨(ad.add (j * 7)).block, (ad.add (j * 7)).off + 1, none⟩ = some (.int .u64 a') := hcc 1 _ rfl
      have e2 : wr.cell? ⟨(ad.add (j * 7)).block, (ad.add (j * 7)).off + 2, none⟩ = some (.int .u64 b') := hcc 2 _ rfl
      have e3 : wr.cell? ⟨(ad.add (j * 7)).block, (ad.add (j * 7)).off + 3, none⟩ = some (.int .u64 c') := hcc 3 _ rfl
      have e4 : wr.cell? ⟨(ad.add (j * 7)).block, (ad.add (j * 7)).off + 4, none⟩ = some (.int .u64 d') := hcc 4 _ rfl
      have e5 : wr.cell? ⟨(ad.add (j * 7)).block, (ad.add (j * 7)).off + 5, none⟩ = some (.string t') := hcc 5 _ rfl
      have e6 : wr.cell? ⟨(ad.add (j * 7)).block, (ad.add (j * 7)).off + 6, none⟩ = some (.slice A' ks'.length cp') := hcc 6 _ rfl
      clear hcc hcj hej hr' hc' hb' hnone'
      have hle := lookN_le (.mk k' a' b' c' d' t' ks') m (deep + 1) hm60
      generalize hx : lookN (.mk k' a' b' c' d' t' ks') m (deep + 1) = r at hle
      obtain ⟨x, m2⟩ := r
      have HX := Lib.hid hx
      clear hx
      have hcall : ∀ o : Obj, Calls Tryd.prog 77 #[.pointer (some ⟨g, 0, none⟩), .agg #[.int .i64 k', .int .u64 a', .int .u64 b', .int .u64 c', .int .u64 d', .string t', .slice A' ks'.length cp'], .int .i64 ((deep : Int) + 1)] (wr.alloc o) (LookQ g (x, m2) (wr.alloc o)) := fun o => by
        have h := IH.out _ hmem _ (wr.alloc o) g m (deep + 1) B (hej3.keep (Nat.le_refl _) (fun p hp => World.cell?_alloc_lt _ _ _ (by omega))) hB (hgr.alloc _) hm60 (by omega)
        rw [HX.out] at h
        exact h
      have HCall := Lib.hid hcall
      clear hcall hej3
      go_wp2_with fail
      refine (HCall.out _).mono ?_
      rintro e w2 ⟨rfl, hg2, hw2⟩
      have hwr2 : w.grownBy w2 (some g) := grown_trans (grown_alloc hwr _) hw2
      clear hw2
      by_cases hx0 : x = 0
      · subst hx0
        go_wp2
        go_roundw
        case rel =>
          refine ⟨j + 1, m2, by omega, hle.2 (by simp), by go_num, ?_, hg2, hwr2⟩
          refine HR.out.trans ?_
          rw [HD.out, looks, HX.out, if_pos rfl]
        case measure => simp [intOf]; omega
      · have hxb : (x != 0) = true := by rw [bne_iff_ne]; exact hx0
        go_wp2
        go_ret
        have HE : lookN (.mk k a b c d t ks) n deep = (x, m2) := HR.out.trans (by rw [HD.out, looks, HX.out, if_neg hx0])
        exact ⟨by rw [HE]; rfl, by rw [HE]; exact hg2, hwr2⟩
    · obtain rfl : j = ks.length := by omega
      have HR2 : Hid (lookN (.mk k a b c d t ks) n deep = (0, m)) := HR.out.trans (by rw [List.drop_length, looks])
      go_wp2
      go_ret
      exact ⟨by rw [HR2.out]; rfl, by rw [HR2.out]; exact hgr, hwr⟩

/-- what expr.Check and expr.Size say -/
def checkE (e : Ex) : Int := (lookN e 0 1).1
def sizeE (e : Ex) : Nat × Int := if (lookN e 0 1).1 = 0 then ((lookN e 0 1).2, 0) else (0, (lookN e 0 1).1)

theorem below_of_grown {w w' : World} {g B : Nat} (h : w.grownBy w' (some g)) (hB : B ≤ g) (hw : B ≤ w.heap.size) : Below B w w' :=
  ⟨h.os, h.tape, h.output, h.size, fun k hk => h.block k (by omega) fun e => by injection e with e; omega⟩

theorem Ex.parts (e : Ex) {w : World} {B : Nat} {cs : List Value} (h : ExIs w B e cs) : ∃ k a b c d t A n cp, cs = [.int .i64 k, .int .u64 a, .int .u64 b, .int .u64 c, .int .u64 d, .string t, .slice A n cp] := by
  cases h with
  | mk k a b c d t ks A cp row ht hl hm hnone hb hr hc => exact ⟨_, _, _, _, _, _, _, _, _, rfl⟩

theorem check_expr (e : Ex) (cs : List Value) (w : World) (h : ExIs w w.heap.size e cs) : Calls Tryd.prog 78 #[.agg cs.toArray] w fun e' w' => e' = .returned (.int .i64 (checkE e)) ∧ Below w.heap.size w w' := by
  have hl := fun (W : World) (g : Nat) (hW : Below w.heap.size w W) (hg : w.heap.size ≤ g) (hb : Blk W g 145 #[.int .i64 0]) => look_any e cs W g 0 1 w.heap.size (h.on hW) hg hb (by omega) (by omega)
  have HL := Lib.hid hl
  obtain ⟨k, a, b, c, d, t, A, n, cp, rfl⟩ := e.parts h
  clear hl h
  go_enter Tryd.func78, Tryd.ntmps78
  go_wp2_with fail
  refine (HL.out _ (w.heap.size + 1) (by repeat (first | exact Below.refl _ _ | assumption | refine Below.drew ?_ | refine below_drewN ?_ _ | refine Below.alloc ?_ (by first | omega | (simp; omega) | simp) _ | refine Below.setCell ?_ (by first | omega | (simp; omega) | simp) _)) (by omega) (blk_at (by simp))).mono ?_
  rintro e' w1 ⟨rfl, _, hw1⟩
  have hb1 : Below w.heap.size w w1 := Below.trans (by repeat (first | exact Below.refl _ _ | assumption | refine Below.drew ?_ | refine below_drewN ?_ _ | refine Below.alloc ?_ (by first | omega | (simp; omega) | simp) _ | refine Below.setCell ?_ (by first | omega | (simp; omega) | simp) _)) (below_of_grown hw1 (by simp) (by simp; omega))
  clear hw1
  go_wp2
  go_ret
  exact ⟨rfl, hb1⟩

theorem size_expr (e : Ex) (cs : List Value) (w : World) (h : ExIs w w.heap.size e cs) : Calls Tryd.prog 59 #[.agg cs.toArray] w fun e' w' => e' = .returned (.tuple #[.int .i64 (sizeE e).1, .int .i64 (sizeE e).2]) ∧ Below w.heap.size w w' := by
  have hl := fun (W : World) (g : Nat) (hW : Below w.heap.size w W) (hg : w.heap.size ≤ g) (hb : Blk W g 145 #[.int .i64 0]) => look_any e cs W g 0 1 w.heap.size (h.on hW) hg hb (by omega) (by omega)
  have hle := (lookN_le e 0 1 (by omega)).1
  obtain ⟨k, a, b, c, d, t, A, n, cp, rfl⟩ := e.parts h
  have hs : sizeE e = if (lookN e 0 1).1 = 0 then ((lookN e 0 1).2, 0) else (0, (lookN e 0 1).1) := rfl
  generalize lookN e 0 1 = r at hl hle hs
  obtain ⟨x, m⟩ := r
  have HL := Lib.hid hl
  have HS := Lib.hid hs
  clear hl h hs
  go_enter Tryd.func59, Tryd.ntmps59
  go_wp2_with fail
  refine (HL.out _ (w.heap.size + 1) (by repeat (first | exact Below.refl _ _ | assumption | refine Below.drew ?_ | refine below_drewN ?_ _ | refine Below.alloc ?_ (by first | omega | (simp; omega) | simp) _ | refine Below.setCell ?_ (by first | omega | (simp; omega) | simp) _)) (by omega) (blk_at (by simp))).mono ?_
  rintro e' w1 ⟨rfl, hg1, hw1⟩
  have hb1 : Below w.heap.size w w1 := Below.trans (by repeat (first | exact Below.refl _ _ | assumption | refine Below.drew ?_ | refine below_drewN ?_ _ | refine Below.alloc ?_ (by first | omega | (simp; omega) | simp) _ | refine Below.setCell ?_ (by first | omega | (simp; omega) | simp) _)) (below_of_grown hw1 (by simp) (by simp; omega))
  have hc1 : w1.cell? ⟨w.heap.size + 1, 0, none⟩ = some (.int .i64 m) := hg1.cell 0
  clear hw1
  by_cases hx0 : x = 0
  · subst hx0
    go_wp2
    go_ret2
    exact ⟨by rw [HS.out]; rfl, hb1⟩
  · have hxb : (x != 0) = true := by rw [bne_iff_ne]; exact hx0
    have HSS := Lib.hid (HS.out.trans (if_neg hx0))
    go_wp2
    go_ret2
    exact ⟨by rw [HSS.out]; rfl, hb1⟩
end Go.Proofs.YtkmcnekjimobhaaDoor
namespace Go.Proofs.YtkmcnekjimobhaaDoor
open Go.RowKit

/-- the cells of an expression at p, as a walk spells them -/
structure Seven (w : World) (p : Addr) (k a b c d : Int) (t : ByteArray) (A : Option Addr) (n cp : Nat) : Prop where
  c0 : w.cell? p = some (.int .i64 k)
  c1 : w.cell? ⟨p.block, p.off + 1, none⟩ = some (.int .u64 a)
  c2 : w.cell? ⟨p.block, p.off + 2, none⟩ = some (.int .u64 b)
  c3 : w.cell? ⟨p.block, p.off + 3, none⟩ = some (.int .u64 c)
  c4 : w.cell? ⟨p.block, p.off + 4, none⟩ = some (.int .u64 d)
  c5 : w.cell? ⟨p.block, p.off + 5, none⟩ = some (.string t)
  c6 : w.cell? ⟨p.block, p.off + 6, none⟩ = some (.slice A n cp)
theorem Seven.of {w : World} {p : Addr} {k a b c d : Int} {t : ByteArray} {A : Option Addr} {n cp : Nat}
    (h : ∀ j u, (exCells k a b c d t A n cp)[j]? = some u → w.cell? (p.add j) = some u) : Seven w p k a b c d t A n cp :=
  ⟨h 0 _ rfl, h 1 _ rfl, h 2 _ rfl, h 3 _ rfl, h 4 _ rfl, h 5 _ rfl, h 6 _ rfl⟩

section
variable {w : World} {B : Nat} {k a b c d : Int} {t : ByteArray} {ks : List Ex} {cs : List Value} {A : Option Addr} {n cp : Nat}
theorem ExIs.shape (h : ExIs w B (.mk k a b c d t ks) cs) : t.size ≤ maxLen ∧ ∃ A cp, cs = exCells k a b c d t A ks.length cp ∧ ks.length ≤ cp ∧ cp ≤ maxLen ∧ (A = none → cp = 0) := by
  cases h with
  | mk _ _ _ _ _ _ _ A cp row ht hl hm hnone hb hr hc => exact ⟨ht, A, cp, rfl, hl, hm, hnone⟩
theorem ExIs.len (h : ExIs w B (.mk k a b c d t ks) (exCells k a b c d t A n cp)) : n = ks.length ∧ t.size ≤ maxLen ∧ n ≤ cp ∧ cp ≤ maxLen ∧ (A = none → cp = 0) := by
  obtain ⟨h1, A', cp', e, h2, h3, h4⟩ := h.shape
  simp only [exCells, List.cons.injEq, Value.slice.injEq, true_and, and_true] at e
  obtain ⟨rfl, rfl, rfl⟩ := e
  exact ⟨rfl, h1, h2, h3, h4⟩
theorem ExIs.kid (h : ExIs w B (.mk k a b c d t ks) (exCells k a b c d t A n cp)) {j : Nat} (hj : j < ks.length) :
    ∃ (ad : Addr) (k' a' b' c' d' : Int) (t' : ByteArray) (ks' : List Ex) (A' : Option Addr) (cp' : Nat), A = some ad ∧ ad.block < B ∧ ks[j]? = some (.mk k' a' b' c' d' t' ks') ∧
      ExIs w B (.mk k' a' b' c' d' t' ks') (exCells k' a' b' c' d' t' A' ks'.length cp') ∧ Seven w (ad.add (j * 7)) k' a' b' c' d' t' A' ks'.length cp' := by
  have hlen := h.len.1
  generalize he : exCells k a b c d t A n cp = cs at h
  cases h with
  | mk _ _ _ _ _ _ _ A0 cp0 row ht hl hm hnone hb hr hc =>
    simp only [exCells, List.cons.injEq, Value.slice.injEq, true_and, and_true] at he
    obtain ⟨rfl, _, rfl⟩ := he
    obtain ⟨ad, rfl, hab⟩ := hb (by omega)
    have hej : ks[j]? = some ks[j] := List.getElem?_eq_getElem hj
    generalize ks[j] = ej at hej
    have hE := hr j ej hej
    have hcc := hc j ej ad hej rfl
    generalize row j = rj at hE hcc
    cases ej with
    | mk k' a' b' c' d' t' ks' =>
    obtain ⟨_, A', cp', rfl, _⟩ := hE.shape
    exact ⟨ad, k', a', b', c', d', t', ks', A', cp', rfl, hab, hej, hE, Seven.of hcc⟩
end

/-- a rule: its name, its body -/
abbrev Rl := ByteArray × Ex
/-- the rules of a grammar, below block B -/
structure GrIs (w : World) (B : Nat) (g : List Rl) (A : Option Addr) (cp : Nat) (row : Nat → List Value) : Prop where
  le : g.length ≤ cp
  cap : cp ≤ maxLen
  nil : A = none → cp = 0
  lies : 0 < g.length → ∃ ad : Addr, A = some ad ∧ ad.block < B
  small : ∀ (i : Nat) (r : Rl), g[i]? = some r → r.1.size ≤ maxLen
  body : ∀ (i : Nat) (r : Rl), g[i]? = some r → ExIs w B r.2 (row i)
  name : ∀ (i : Nat) (r : Rl) (ad : Addr), g[i]? = some r → A = some ad → w.cell? (ad.add (i * 8)) = some (.string r.1)
  cell : ∀ (i : Nat) (r : Rl) (ad : Addr), g[i]? = some r → A = some ad → ∀ j u, (row i)[j]? = some u → w.cell? ((ad.add (i * 8)).add (j + 1)) = some u

section
variable {w w' : World} {B B' : Nat} {g : List Rl} {A : Option Addr} {cp : Nat} {row : Nat → List Value}
theorem GrIs.keep (h : GrIs w B g A cp row) (hB : B ≤ B') (hk : ∀ p : Addr, p.block < B → w'.cell? p = w.cell? p) : GrIs w' B' g A cp row where
  le := h.le
  cap := h.cap
  nil := h.nil
  lies h0 := by
    obtain ⟨ad, e, h1⟩ := h.lies h0
    exact ⟨ad, e, Nat.lt_of_lt_of_le h1 hB⟩
  small := h.small
  body i r hr := (h.body i r hr).keep hB hk
  name i r ad hr hA := by
    obtain ⟨ad', e', h1⟩ := h.lies (by have := getElem?_lt hr; omega)
    rw [hA] at e'
    injection e' with e'
    subst e'
    rw [hk _ (by rw [add_block]; exact h1)]
    exact h.name i r ad hr hA
  cell i r ad hr hA j u hu := by
    obtain ⟨ad', e', h1⟩ := h.lies (by have := getElem?_lt hr; omega)
    rw [hA] at e'
    injection e' with e'
    subst e'
    rw [hk _ (by rw [add_block, add_block]; exact h1)]
    exact h.cell i r ad hr hA j u hu
theorem GrIs.on (h : GrIs w B g A cp row) (hb : Below B w w') : GrIs w' B g A cp row := h.keep (Nat.le_refl _) fun _ => hb.cell
theorem GrIs.more (h : GrIs w B g A cp row) (hB : B ≤ B') : GrIs w B' g A cp row := h.keep hB fun _ _ => rfl
/-- the cells of a rule at p: its name, and its body's from the next on -/
structure Eight (w : World) (p : Addr) (nm : ByteArray) (k a b c d : Int) (t : ByteArray) (A : Option Addr) (n cp : Nat) : Prop where
  c0 : w.cell? p = some (.string nm)
  c1 : w.cell? ⟨p.block, p.off + 1, none⟩ = some (.int .i64 k)
  c2 : w.cell? ⟨p.block, p.off + 2, none⟩ = some (.int .u64 a)
  c3 : w.cell? ⟨p.block, p.off + 3, none⟩ = some (.int .u64 b)
  c4 : w.cell? ⟨p.block, p.off + 4, none⟩ = some (.int .u64 c)
  c5 : w.cell? ⟨p.block, p.off + 5, none⟩ = some (.int .u64 d)
  c6 : w.cell? ⟨p.block, p.off + 6, none⟩ = some (.string t)
  c7 : w.cell? ⟨p.block, p.off + 7, none⟩ = some (.slice A n cp)
theorem GrIs.rule (h : GrIs w B g A cp row) {j : Nat} (hj : j < g.length) :
    ∃ (ad : Addr) (nm : ByteArray) (k' a' b' c' d' : Int) (t' : ByteArray) (ks' : List Ex) (A' : Option Addr) (cp' : Nat), A = some ad ∧ ad.block < B ∧ g[j]? = some (nm, .mk k' a' b' c' d' t' ks') ∧ nm.size ≤ maxLen ∧
      ExIs w B (.mk k' a' b' c' d' t' ks') (exCells k' a' b' c' d' t' A' ks'.length cp') ∧ Eight w (ad.add (j * 8)) nm k' a' b' c' d' t' A' ks'.length cp' := by
  obtain ⟨ad, rfl, hab⟩ := h.lies (by omega)
  have hej : g[j]? = some g[j] := List.getElem?_eq_getElem hj
  generalize g[j] = ej at hej
  obtain ⟨nm, ej⟩ := ej
  have hE := h.body j _ hej
  have hn := h.name j _ ad hej rfl
  have hcc := h.cell j _ ad hej rfl
  have hs := h.small j _ hej
  generalize row j = rj at hE hcc
  cases ej with
  | mk k' a' b' c' d' t' ks' =>
  obtain ⟨_, A', cp', rfl, _⟩ := hE.shape
  exact ⟨ad, nm, k', a', b', c', d', t', ks', A', cp', rfl, hab, hej, hs, hE, hn, hcc 0 _ rfl, hcc 1 _ rfl, hcc 2 _ rfl, hcc 3 _ rfl, hcc 4 _ rfl, hcc 5 _ rfl, hcc 6 _ rfl⟩
end

/-- where a name is found from a place on; -1: nowhere -/
def fndFrom : List Rl → List UInt8 → Nat → Int
  | [], _, _ => -1
  | r :: rs, s, i => if r.1.data.toList = s then i else fndFrom rs s (i + 1)
def fnd (g : List Rl) (s : List UInt8) : Int := fndFrom g s 0
theorem fndFrom_le : ∀ (g : List Rl) (s : List UInt8) (i : Nat), -1 ≤ fndFrom g s i ∧ fndFrom g s i < i + g.length
  | [], s, i => by simp [fndFrom]; omega
  | r :: rs, s, i => by
    have := fndFrom_le rs s (i + 1)
    unfold fndFrom
    split
    · simp; omega
    · simp; omega
theorem drop_of {α : Type} {l : List α} {j : Nat} {x : α} (h : l[j]? = some x) : l.drop j = x :: l.drop (j + 1) := by
  have hj := getElem?_lt h
  rw [List.drop_eq_getElem_cons hj]
  rw [List.getElem?_eq_getElem hj] at h
  injection h with h
  rw [h]
theorem toList_eq_iff (a b : ByteArray) : (a.toList == b.toList) = decide (a.data.toList = b.data.toList) := by
  rw [ByteArray.toList_eq, ByteArray.toList_eq]
  by_cases h : a.data.toList = b.data.toList
  · rw [h]; simp
  · simp only [h, decide_false, beq_eq_false_iff_ne, ne_eq, not_false_eq_true]
end Go.Proofs.YtkmcnekjimobhaaDoor
