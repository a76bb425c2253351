/- Words of memory for this seat's proofs: a run of cells that can be read, a block that is known whole, ints, and what a world keeps. How the arguments of a law are opened: what a reading of a slice of ints gives the walk. Trees in memory, and how one that came in is opened. What tree.Count and event.Of answer. What chaffref.SameTree answers. Expressions in memory. What strings.IndexByte, walk.Alpha, walk.shorter and walk.Over answer. What expr.Name answers. Sets are compared word by word; the walk of the law SetAlgebra. Expressions: what a text of cells says, and what expr.fit answers. -/
import Derived.WalkKit
import Derived.LoopTactic
import Derived.Below
import Derived.Laws.OwnMore
import Derived.Deep.AppendLies
import Derived.Deep.Draws
import Derived.Laws.Rows
import Derived.Maps.AppendAt
import Derived.RegionTactic
import Derived.OwnWalk
import Derived.Lib.Hide
import Derived.ProofKit
import Derived.OpenShut
import Derived.ShutString
import Derived.ChangeOld
import Derived.SizedLaws
import Derived.Test.YtndhbdbfjkmloaaRows
import Derived.Test.YtndhbdbfjkmloaaProg
import Derived.BigQuiet
import Derived.Deep.QuietTactic
import Derived.Lib.Bytealg
import Derived.Lib.IndexLaws
import Derived.ChangeKeysEq
namespace Go.Proofs.Ytndhbdbfjkmloaa
open Go.RowKit


theorem add_block (a : Addr) (n : Nat) : (a.add n).block = a.block := by
  cases n with
  | zero => rfl
  | succ n => rfl
theorem add_add' (a : Addr) (i j : Nat) : (a.add i).add j = a.add (i + j) := by
  cases i with
  | zero => rw [Nat.zero_add]; rfl
  | succ i => cases j with
    | zero => rfl
    | succ j => simp [Addr.add]; omega

/-- a run of n elements of 'size' cells each begins at A, lies below block B, and holds the cells xs (where n is 0, of A nothing is said) -/
structure Reads (w : World) (B size : Nat) (A : Option Addr) (n : Nat) (xs : List Value) : Prop where
  len : xs.length = n * size
  lies : 0 < n → ∃ ad : Addr, A = some ad ∧ ad.block < B ∧ ∀ j u, xs[j]? = some u → w.cell? (ad.add j) = some u

section
variable {w w' : World} {B B' size n : Nat} {A : Option Addr} {xs : List Value}
theorem Reads.none_ : Reads w B size A 0 [] := ⟨by simp, by omega⟩
theorem Reads.at_ {k : Nat} (h : Reads w B 1 A n xs) (hk : k < n) : ∃ ad u, A = some ad ∧ ad.block < B ∧ xs[k]? = some u ∧ w.cell? (ad.add k) = some u := by
  obtain ⟨ad, rfl, hb, hc⟩ := h.lies (by omega)
  have hx := List.getElem?_eq_getElem (l := xs) (i := k) (by have := h.len; omega)
  exact ⟨ad, _, rfl, hb, hx, hc k _ hx⟩
/-- in another world that has the same cells below B -/
theorem Reads.keep (h : Reads w B size A n xs) (hk : ∀ p : Addr, p.block < B → w'.cell? p = w.cell? p) : Reads w' B size A n xs where
  len := h.len
  lies hn := by
    obtain ⟨ad, e, hb, hc⟩ := h.lies hn
    refine ⟨ad, e, hb, fun j u hu => ?_⟩
    rw [hk _ (by rwa [add_block])]
    exact hc j u hu
theorem Reads.more (h : Reads w B size A n xs) (hB : B ≤ B') : Reads w B' size A n xs where
  len := h.len
  lies hn := by
    obtain ⟨ad, e, hb, hc⟩ := h.lies hn
    exact ⟨ad, e, Nat.lt_of_lt_of_le hb hB, hc⟩
theorem Reads.below (h : Reads w B size A n xs) (hb : Below B w w') : Reads w' B size A n xs := h.keep fun _ => hb.cell
theorem Reads.drewN (h : Reads w B size A n xs) (k : Nat) : Reads (w.drewN k) B size A n xs := ⟨h.len, h.lies⟩
theorem Reads.drew (h : Reads w B size A n xs) : Reads w.drew B size A n xs := ⟨h.len, h.lies⟩
theorem Reads.alloc (h : Reads w B size A n xs) (hB : B ≤ w.heap.size) (o : Obj) : Reads (w.alloc o) B size A n xs :=
  h.keep fun p hp => World.cell?_alloc_lt w o p (Nat.lt_of_lt_of_le hp hB)
theorem Reads.setCell (h : Reads w B size A n xs) {p : Addr} (hB : B ≤ p.block) (u : Value) : Reads (w.setCell p u) B size A n xs :=
  h.keep fun q hq => World.cell?_setCell_other w p q u (by rintro rfl; omega)
theorem Reads.grown (h : Reads w B size A n xs) {row : Option Nat} (hg : w.grownBy w' row) (hB : B ≤ w.heap.size) (hr : ∀ g, row = some g → B ≤ g) : Reads w' B size A n xs :=
  h.keep fun p hp => World.cell?_of_block (hg.block p.block (by omega) fun e => by have := hr p.block e.symm; omega)
/-- what a call owns can be read -/
theorem Reads.of_own {base : Nat} {e : TypeId} {c : Nat} (h : w.ownsRow base e size (.slice A n c) n xs) : Reads w w.heap.size size A n xs where
  len := h.1
  lies hn := by
    obtain ⟨g, cap, hv, _, hlt⟩ := h.form hn
    simp only [Value.slice.injEq] at hv
    obtain ⟨rfl, -, -⟩ := hv
    exact ⟨⟨g, 0, none⟩, rfl, hlt, h.cells (g := g) rfl⟩
end

/-- block g is just these cells, none of them frozen -/
def Blk (w : World) (g : Nat) (t : TypeId) (cs : Array Value) : Prop := w.heap[g]? = some (.cells cs t (0, 0))

section
variable {w w' : World} {g : Nat} {t : TypeId} {cs : Array Value}
theorem Blk.lt (h : Blk w g t cs) : g < w.heap.size := (Array.getElem?_eq_some_iff.1 h).1
theorem Blk.cell (h : Blk w g t cs) (i : Nat) : w.cell? ⟨g, i, none⟩ = cs[i]? := cell_of_row w g i cs t (0, 0) h
theorem Blk.frozen (h : Blk w g t cs) (i : Nat) : w.frozen? ⟨g, i, none⟩ = false := by
  have h' : w.heap[g]? = some (.cells cs t (0, 0)) := h
  simp [World.frozen?, h']
theorem Blk.new (w : World) (t : TypeId) (cs : Array Value) : Blk (w.alloc (.cells cs t)) w.heap.size t cs := heap_alloc_new w _
theorem Blk.drewN (h : Blk w g t cs) (n : Nat) : Blk (w.drewN n) g t cs := h
theorem Blk.drew (h : Blk w g t cs) : Blk w.drew g t cs := h
theorem Blk.alloc (h : Blk w g t cs) (o : Obj) : Blk (w.alloc o) g t cs := (Below.heap_alloc w o g h.lt).trans h
theorem Blk.set_ (h : Blk w g t cs) (i : Nat) (u : Value) : Blk (w.setCell ⟨g, i, none⟩ u) g t (cs.setIfInBounds i u) := by
  have h' : w.heap[g]? = some (.cells cs t (0, 0)) := h
  show (w.setCell ⟨g, i, none⟩ u).heap[g]? = _
  simp [World.setCell, Array.getElem?_modify, h']
theorem Blk.far (h : Blk w g t cs) {p : Addr} (hp : g ≠ p.block) (u : Value) : Blk (w.setCell p u) g t cs := (Below.heap_setCell w p u g hp).trans h
theorem Blk.below {B : Nat} (h : Blk w g t cs) (hb : Below B w w') (hg : g < B) : Blk w' g t cs := (hb.block g hg).trans h
theorem Blk.grown {row : Option Nat} (h : Blk w g t cs) (hb : w.grownBy w' row) (hg : some g ≠ row) : Blk w' g t cs := (hb.block g h.lt hg).trans h
end

/-- a Go int -/
def I64 (z : Int) : Prop := -9223372036854775808 ≤ z ∧ z ≤ 9223372036854775807
theorem below_drewN {B : Nat} {a w : World} (h : Below B a w) (n : Nat) : Below B a (w.drewN n) := ⟨h.os, h.tape, h.output, h.size, h.block⟩
/-- the append's own row does not lie below the base -/
theorem below_app {B : Nat} {a w w' : World} {v : Value} {base n size : Nat} {e : TypeId} {xs : List Value} (h : Below B a w) (hown : w.ownsRow base e size v n xs) (hg : w.grownBy w' v.ownBlock) (hB : B ≤ w.heap.size) (hbase : B ≤ base) : Below B a w' :=
  h.grown hg hB fun k hk => by have := hown.lt k hk; omega
theorem own_form {w : World} {base : Nat} {e : TypeId} {size : Nat} {v : Value} {n : Nat} {xs : List Value} (h : w.ownsRow base e size v n xs) : ∃ V c, v = .slice V n c := by
  rcases h.2 with ⟨rfl, rfl⟩ | ⟨g, cap, _, rfl, _⟩
  · exact ⟨_, _, rfl⟩
  · exact ⟨_, _, rfl⟩
theorem grown_of_below {w w' : World} (h : Below w.heap.size w w') (row : Option Nat) : w.grownBy w' row := ⟨h.os, h.tape, h.output, h.size, fun k hk _ => h.block k hk⟩
theorem own_below {w w' : World} {base : Nat} {e : TypeId} {size : Nat} {v : Value} {n : Nat} {xs : List Value} (h : w.ownsRow base e size v n xs) (hb : Below w.heap.size w w') : w'.ownsRow base e size v n xs :=
  h.kept (grown_of_below hb none) (by cases h' : v.ownBlock <;> simp)
theorem own_far {w w' : World} {base : Nat} {e : TypeId} {size : Nat} {v : Value} {n : Nat} {xs : List Value} (h : w.ownsRow base e size v n xs) {g : Nat} (hg : w.grownBy w' (some g)) (hlt : g < base) : w'.ownsRow base e size v n xs :=
  h.kept hg (.inr fun e => by have := h.lt g e; omega)
theorem own_ne {w : World} {base : Nat} {e : TypeId} {size : Nat} {v : Value} {n : Nat} {xs : List Value} (h : w.ownsRow base e size v n xs) {b : Nat} (hb : b < base) : some b ≠ v.ownBlock := fun e => absurd (h.lt _ e.symm).1 (by omega)
theorem getElem?_lt {α : Type} {l : List α} {k : Nat} {x : α} (h : l[k]? = some x) : k < l.length := (List.getElem?_eq_some_iff.1 h).1
theorem take_succ_of {α : Type} {l : List α} {k : Nat} {x : α} (h : l[k]? = some x) : l.take (k + 1) = l.take k ++ [x] := by
  rw [List.take_add_one, h]; rfl
theorem ret_int {k : IntKind} {a b : Int} (h : a = b) : Ending.returned (.int k a) = .returned (.int k b) := by rw [h]
theorem ret_bool {a b : Bool} (h : a = b) : Ending.returned (.bool a) = .returned (.bool b) := by rw [h]
/-- make([]T, n, c): what run_make says, at numbers that are not below 0 -/
theorem made_run {P : Program} {t e : TypeId} {i : TypeInfo} {z : Value} (ht : P.underlying t = some (.slice e)) (hi : P.info? e = some i) (hz : i.zero = some z)
    (kl kc : IntKind) {n c : Nat} (hnc : n ≤ c) (hb : (i.bytes : Int) * (c : Int) ≤ 281474976710656) (hc : c ≤ 9223372036854775807) (w : World) :
    (Instr.makeSlice t (.int kl (n : Int)) (.int kc (c : Int))).run P w = .ok (.slice (some ⟨w.heap.size, 0, none⟩) n c) (w.alloc (.cells (madeCells z.cells (c * i.size)) e)) := by
  simpa using run_make (P := P) w t e i z ht hi hz kl kc (n : Int) (c : Int) (by omega) (by omega) hb (by omega)
theorem blk_at {w : World} {g : Nat} {t : TypeId} {cs : Array Value} (h : g = w.heap.size) : Blk (w.alloc (.cells cs t)) g t cs := by rw [h]; exact Blk.new w t cs
theorem Reads.on {w w' : World} {size n C : Nat} {A : Option Addr} {xs : List Value} (h : Reads w w.heap.size size A n xs) (hb : Below C w w') (hC : w.heap.size ≤ C) : Reads w' w'.heap.size size A n xs := (h.below (hb.mono hC)).more hb.size
end Go.Proofs.Ytndhbdbfjkmloaa
namespace Go.Proofs.Ytndhbdbfjkmloaa
open Go.ChangeShapes Go.WideShapes Go.ChangeAt Go.RowKit

theorem I64_of_wf {z : Int} (h : (Lit.int .i64 z).wf = true) : I64 z := by
  simpa [I64, Lit.wf, IntKind.min, IntKind.max, IntKind.signed, IntKind.bits] using h

end Go.Proofs.Ytndhbdbfjkmloaa
namespace Go.Proofs.Ytndhbdbfjkmloaa
open Go.ChangeShapes Go.WideShapes Go.ChangeAt Go.RowKit

/-- a tree: rule, from, to, kids -/
inductive Tr where
  | mk (r f u : Int) (ks : List Tr)

theorem Tr.ind {P : Tr → Prop} (h : ∀ r f u ks, (∀ t ∈ ks, P t) → P (.mk r f u ks)) (t : Tr) : P t := by
  refine Tr.rec (motive_1 := P) (motive_2 := fun ks => ∀ e ∈ ks, P e) ?_ ?_ ?_ t
  · exact fun r f u ks ih => h r f u ks ih
  · exact fun e he => by cases he
  · intro e es h1 h2 e' he
    rcases List.mem_cons.1 he with rfl | he
    · exact h1
    · exact h2 _ he
mutual
def trNodes : Tr → Nat
  | .mk _ _ _ ks => 1 + trAll ks
def trAll : List Tr → Nat
  | [] => 0
  | t :: ts => trNodes t + trAll ts
end
theorem trAll_len : ∀ ks : List Tr, ks.length ≤ trAll ks
  | [] => by simp
  | .mk r f u ks' :: ks => by
    have := trAll_len ks
    simp only [trAll, trNodes, List.length_cons]
    omega
theorem trAll_mem : ∀ (ks : List Tr) (t : Tr), t ∈ ks → trNodes t ≤ trAll ks
  | [], t, h => by cases h
  | t' :: ks, t, h => by
    rw [trAll]
    rcases List.mem_cons.1 h with rfl | h
    · omega
    · have := trAll_mem ks t h
      omega

/-- the cells of a tree, and that all below it can be read in blocks of S -/
inductive TrIs (w : World) (S : Nat → Prop) : Tr → List Value → Prop
  | mk (r f u : Int) (ks : List Tr) (A : Option Addr) (cp : Nat) (row : Nat → List Value) :
      ks.length ≤ cp → cp ≤ maxLen → (0 < ks.length → ∃ ad : Addr, A = some ad ∧ S ad.block) →
      (∀ i t, ks[i]? = some t → TrIs w S t (row i)) →
      (∀ i t ad, ks[i]? = some t → A = some ad → ∀ j u, (row i)[j]? = some u → w.cell? ((ad.add (i * 4)).add j) = some u) →
      TrIs w S (.mk r f u ks) [.int .i64 r, .int .i64 f, .int .i64 u, .slice A ks.length cp]

theorem TrIs.keep {w w' : World} {S S' : Nat → Prop} {t : Tr} {cs : List Value} (h : TrIs w S t cs) (hS : ∀ b, S b → S' b) (hk : ∀ p : Addr, S p.block → w'.cell? p = w.cell? p) : TrIs w' S' t cs := by
  induction h with
  | mk r f u ks A cp row hl hm hb hr hc ih =>
    refine .mk r f u ks A cp row hl hm (fun h0 => ?_) ih fun i t ad ht hA j v hv => ?_
    · obtain ⟨ad, e, h1⟩ := hb h0
      exact ⟨ad, e, hS _ h1⟩
    · obtain ⟨ad', e', h1⟩ := hb (by have := getElem?_lt ht; omega)
      rw [hA] at e'
      injection e' with e'
      subst e'
      rw [hk _ (by rw [add_block, add_block]; exact h1)]
      exact hc i t ad ht hA j v hv
theorem TrIs.len {w : World} {S : Nat → Prop} {t : Tr} {cs : List Value} (h : TrIs w S t cs) : cs.length = 4 := by cases h; simp
theorem TrIs.on {w w' : World} {B B' : Nat} {t : Tr} {cs : List Value} (h : TrIs w (· < B) t cs) (hb : Below B w w') (hB : B ≤ B') : TrIs w' (· < B') t cs := h.keep (fun _ h => Nat.lt_of_lt_of_le h hB) fun _ hp => hb.cell hp

theorem tr_row {α : Type} [Inhabited α] {n : Nat} {p : Nat → α → Prop} (h : ∀ i, i < n → ∃ x, p i x) : ∃ f : Nat → α, ∀ i, i < n → p i (f i) := by
  have h' : ∀ i, ∃ x, i < n → p i x := fun i => by
    by_cases hi : i < n
    · obtain ⟨x, hx⟩ := h i hi
      exact ⟨x, fun _ => hx⟩
    · exact ⟨default, fun h => absurd h hi⟩
  exact ⟨fun i => (h' i).choose, fun i hi => (h' i).choose_spec hi⟩

end Go.Proofs.Ytndhbdbfjkmloaa
namespace Go.Proofs.Ytndhbdbfjkmloaa
open Go.RowKit

/-- an event: kind, rule, at -/
abbrev Ev := Int × Int × Int
mutual
def evs : Tr → List Ev
  | .mk r f u ks => (1, r, f) :: (evsAll ks ++ [(2, r, u)])
def evsAll : List Tr → List Ev
  | [] => []
  | t :: ts => evs t ++ evsAll ts
end
theorem evsAll_len : ∀ (ks : List Tr), (∀ t ∈ ks, (evs t).length = 2 * trNodes t) → (evsAll ks).length = 2 * trAll ks
  | [], _ => rfl
  | t :: ks, h => by
    rw [evsAll, List.length_append, h t (by simp), evsAll_len ks (fun t' ht => h t' (by simp [ht])), trAll]
    omega
theorem evs_len (t : Tr) : (evs t).length = 2 * trNodes t := by
  refine Tr.ind (P := fun t => (evs t).length = 2 * trNodes t) ?_ t
  intro r f u ks ih
  rw [evs, trNodes, List.length_cons, List.length_append, evsAll_len ks ih]
  simp; omega
theorem evsAll_snoc (t : Tr) : ∀ ks : List Tr, evsAll (ks ++ [t]) = evsAll ks ++ evs t
  | [] => by simp [evsAll]
  | t' :: ks => by
    show evsAll (t' :: (ks ++ [t])) = _
    rw [evsAll, evsAll, evsAll_snoc t ks, List.append_assoc]
theorem trAll_take : ∀ (ks : List Tr) (j : Nat), trAll (ks.take j) ≤ trAll ks
  | [], j => by simp [trAll]
  | t :: ks, 0 => by simp [trAll]
  | t :: ks, j + 1 => by
    rw [List.take_succ_cons, trAll, trAll]
    have := trAll_take ks j
    omega


def evCells (l : List Ev) : List Value := l.flatMap fun v => [.int .i64 v.1, .int .i64 v.2.1, .int .i64 v.2.2]
theorem evCells_app (a b : List Ev) : evCells (a ++ b) = evCells a ++ evCells b := by simp [evCells]
theorem evCells_len : ∀ l : List Ev, (evCells l).length = l.length * 3
  | [] => rfl
  | v :: l => by
    have := evCells_len l
    unfold evCells at this ⊢
    rw [List.flatMap_cons, List.length_append, this]
    simp; omega
theorem evCells_one (l : List Ev) : ∀ u ∈ evCells l, u.oneCell' = true := by
  intro u hu
  unfold evCells at hu
  rw [List.mem_flatMap] at hu
  obtain ⟨v, _, hv⟩ := hu
  simp at hv
  rcases hv with rfl | rfl | rfl <;> rfl
theorem ev_info : (Try.prog.info? 67).map (fun i => (i.zero, i.size, i.bytes)) = some (some (.agg #[.int .i64 0, .int .i64 0, .int .i64 0]), 3, 24) := by kernel_rfl
end Go.Proofs.Ytndhbdbfjkmloaa
namespace Go.Proofs.Ytndhbdbfjkmloaa
open Go.RowKit

mutual
def sameT : Tr → Tr → Bool
  | .mk r f u ks, .mk r' f' u' ks' => r == r' && (f == f' && (u == u' && sameAll ks ks'))
def sameAll : List Tr → List Tr → Bool
  | [], [] => true
  | t :: ts, t' :: ts' => sameT t t' && sameAll ts ts'
  | [], _ :: _ => false
  | _ :: _, [] => false
end
theorem sameAll_len : ∀ (a b : List Tr), a.length ≠ b.length → sameAll a b = false
  | [], [], h => by simp at h
  | [], _ :: _, _ => by rw [sameAll]
  | _ :: _, [], _ => by rw [sameAll]
  | x :: a, y :: b, h => by
    rw [sameAll, sameAll_len a b (by simpa using h), Bool.and_false]
theorem sameAll_eq : ∀ (a : List Tr), (∀ t ∈ a, ∀ t', sameT t t' = true ↔ t = t') → ∀ b, sameAll a b = true ↔ a = b
  | [], _, [] => by simp [sameAll]
  | [], _, _ :: _ => by simp [sameAll]
  | _ :: _, _, [] => by simp [sameAll]
  | x :: a, h, y :: b => by
    rw [sameAll, Bool.and_eq_true, h x (by simp) y, sameAll_eq a (fun t ht => h t (by simp [ht])) b, List.cons.injEq]
theorem sameT_eq (t : Tr) : ∀ t', sameT t t' = true ↔ t = t' := by
  refine Tr.ind (P := fun t => ∀ t', sameT t t' = true ↔ t = t') ?_ t
  intro r f u ks ih t'
  cases t' with
  | mk r' f' u' ks' =>
    rw [sameT]
    simp only [Bool.and_eq_true, beq_iff_eq, sameAll_eq ks ih ks', Tr.mk.injEq]
    

/-- a slice of trees that can be read in blocks of S -/
def Kids (w : World) (S : Nat → Prop) (ks : List Tr) (A : Option Addr) (n cp : Nat) : Prop :=
  n = ks.length ∧ n ≤ cp ∧ cp ≤ maxLen ∧ (0 < n → ∃ ad : Addr, A = some ad ∧ S ad.block) ∧
  ∃ row : Nat → List Value, (∀ i t, ks[i]? = some t → TrIs w S t (row i)) ∧ (∀ i t ad, ks[i]? = some t → A = some ad → ∀ j u, (row i)[j]? = some u → w.cell? ((ad.add (i * 4)).add j) = some u)

theorem Kids.keep {w w' : World} {S S' : Nat → Prop} {ks : List Tr} {A : Option Addr} {n cp : Nat} (h : Kids w S ks A n cp) (hS : ∀ b, S b → S' b) (hk : ∀ p : Addr, S p.block → w'.cell? p = w.cell? p) : Kids w' S' ks A n cp := by
  obtain ⟨h1, h2, h3, h4, row, h5, h6⟩ := h
  refine ⟨h1, h2, h3, fun h0 => ?_, row, fun i t ht => (h5 i t ht).keep hS hk, fun i t ad ht hA j v hv => ?_⟩
  · obtain ⟨ad, e, hs⟩ := h4 h0
    exact ⟨ad, e, hS _ hs⟩
  · obtain ⟨ad', e', hs⟩ := h4 (by have := getElem?_lt ht; omega)
    rw [hA] at e'
    injection e' with e'
    subst e'
    rw [hk _ (by rw [add_block, add_block]; exact hs)]
    exact h6 i t ad ht hA j v hv
/-- the kid at place j, and its cells -/
theorem Kids.at_ {w : World} {S : Nat → Prop} {ks : List Tr} {A : Option Addr} {n cp j : Nat} (h : Kids w S ks A n cp) (hj : j < n) :
    ∃ ad r f u ks' A' cp', A = some ad ∧ S ad.block ∧ ks[j]? = some (.mk r f u ks') ∧ TrIs w S (.mk r f u ks') [.int .i64 r, .int .i64 f, .int .i64 u, .slice A' ks'.length cp'] ∧
      w.cell? (ad.add (j * 4)) = some (.int .i64 r) ∧ w.cell? ⟨(ad.add (j * 4)).block, (ad.add (j * 4)).off + 1, none⟩ = some (.int .i64 f) ∧
      w.cell? ⟨(ad.add (j * 4)).block, (ad.add (j * 4)).off + 2, none⟩ = some (.int .i64 u) ∧ w.cell? ⟨(ad.add (j * 4)).block, (ad.add (j * 4)).off + 3, none⟩ = some (.slice A' ks'.length cp') := by
  obtain ⟨h1, h2, h3, h4, row, h5, h6⟩ := h
  obtain ⟨ad, rfl, hs⟩ := h4 (by omega)
  have hej : ks[j]? = some (ks[j]'(by omega)) := List.getElem?_eq_getElem (by omega)
  generalize ks[j]'(by omega) = ej at hej
  have hT := h5 j ej hej
  have hcj := h6 j ej ad hej rfl
  generalize row j = rj at hT hcj
  cases ej with
  | mk r f u ks' =>
    have hT2 := hT
    cases hT with
    | mk _ _ _ _ A' cp' row' hl' hm' hb' hr' hc' =>
      exact ⟨ad, r, f, u, ks', A', cp', rfl, hs, hej, hT2, hcj 0 _ rfl, hcj 1 _ rfl, hcj 2 _ rfl, hcj 3 _ rfl⟩
theorem TrIs.kids {w : World} {S : Nat → Prop} {r f u : Int} {ks : List Tr} {cs : List Value} (h : TrIs w S (.mk r f u ks) cs) : ∃ A cp, cs = [.int .i64 r, .int .i64 f, .int .i64 u, .slice A ks.length cp] ∧ Kids w S ks A ks.length cp := by
  cases h with
  | mk _ _ _ _ A cp row hl hm hb hr hc => exact ⟨A, cp, rfl, rfl, hl, hm, hb, row, hr, hc⟩

/-- SameTree at two trees -/
def SameAt (t : Tr) : Prop := ∀ (t' : Tr) (cs cs' : List Value) (w : World) (S : Nat → Prop), TrIs w S t cs → TrIs w S t' cs' → (∀ b, S b → b < w.heap.size) →
  Calls Try.prog 9 #[.agg cs.toArray, .agg cs'.toArray] w fun e w' => e = .returned (.bool (sameT t t')) ∧ Below w.heap.size w w'

set_option maxRecDepth 100000 in
theorem equalF_any (ks ks' : List Tr) (ih : ∀ t ∈ ks, SameAt t) (A A' : Option Addr) (n n' cp cp' : Nat) (w : World) (S : Nat → Prop) (h : Kids w S ks A n cp) (h' : Kids w S ks' A' n' cp') (hS : ∀ b, S b → b < w.heap.size) :
    Calls Try.prog 25 #[.slice A n cp, .slice A' n' cp', .func (.func 9) #[] #[]] w fun e w' => e = .returned (.bool (sameAll ks ks')) ∧ Below w.heap.size w w' := by
  have HN := Lib.hid h.1
  have HN' := Lib.hid h'.1
  have hmx := h.2.2.1
  have hmn := h.2.1
  unfold maxLen at hmx
  have IH := Lib.hid ih
  clear ih
  by_cases hnn : n = n'
  · subst hnn
    go_enter Try.func25, Try.ntmps25
    go_wp2
    go_loopw [7, 8, 9, 17] (fun _ _ _ i wr => ∃ j : Nat, j ≤ n ∧ i = .int .i64 j ∧ Hid (sameAll ks ks' = sameAll (ks.drop j) (ks'.drop j)) ∧ Below w.heap.size w wr) (fun _ _ _ i _ => n - (intOf i).toNat)
    case atStart => exact ⟨0, by omega, rfl, rfl, Below.refl _ _⟩
    case round =>
      obtain ⟨j, hj, rfl, HR, hwr⟩ := hrel
      have hwz := hwr.size
      by_cases hjn : j < n
      · obtain ⟨ad, r, f, u, k1, B, c1, rfl, hab, hg, hT, e0, e1, e2, e3⟩ := (h.keep (fun _ h => h) (fun p hp => hwr.cell (hS _ hp)) : Kids wr S ks A n cp).at_ hjn
        obtain ⟨ad', r', f', u', k1', B', c1', rfl, hab', hg', hT', e0', e1', e2', e3'⟩ := (h'.keep (fun _ h => h) (fun p hp => hwr.cell (hS _ hp)) : Kids wr S ks' A' n cp').at_ hjn
        have hmem := List.mem_of_getElem? hg
        have HD : Hid (sameAll (ks.drop j) (ks'.drop j) = (sameT (.mk r f u k1) (.mk r' f' u' k1') && sameAll (ks.drop (j + 1)) (ks'.drop (j + 1)))) := by
          show _ = _
          have l1 := getElem?_lt hg
          have l2 := getElem?_lt hg'
          rw [List.getElem?_eq_getElem l1] at hg
          rw [List.getElem?_eq_getElem l2] at hg'
          injection hg with hg
          injection hg' with hg'
          rw [List.drop_eq_getElem_cons l1, List.drop_eq_getElem_cons l2, hg, hg', sameAll]
        have hcall : ∀ W : World, Below w.heap.size wr W → Calls Try.prog 9 #[.agg #[.int .i64 r, .int .i64 f, .int .i64 u, .slice B k1.length c1], .agg #[.int .i64 r', .int .i64 f', .int .i64 u', .slice B' k1'.length c1']] W fun e w' => e = .returned (.bool (sameT (.mk r f u k1) (.mk r' f' u' k1'))) ∧ Below W.heap.size W w' := fun W hW =>
          IH.out _ hmem _ _ _ W S (hT.keep (fun _ h => h) (fun p hp => hW.cell (hS _ hp))) (hT'.keep (fun _ h => h) (fun p hp => hW.cell (hS _ hp))) (fun b h => by have := hS _ h; have := hW.size; omega)
        have HCall := Lib.hid hcall
        clear hcall hT hT' hg hg' hmem
        generalize sameT (.mk r f u k1) (.mk r' f' u' k1') = x at HCall HD
        have hba : (ad.add (j * 4)).block < wr.heap.size := by rw [add_block]; have := hS _ hab; omega
        have hba' : (ad'.add (j * 4)).block < wr.heap.size := by rw [add_block]; have := hS _ hab'; omega
        go_wp2_with fail
        refine (HCall.out _ (by repeat (first | exact Below.refl _ _ | assumption | refine Below.drew ?_ | refine below_drewN ?_ _ | refine Below.alloc ?_ (by first | omega | (simp; omega) | simp) _ | refine Below.setCell ?_ (by first | omega | (simp; omega) | simp) _))).mono ?_
        rintro e w2 ⟨rfl, hb2⟩
        have hw2 : Below w.heap.size w w2 := Below.trans (by repeat (first | exact Below.refl _ _ | assumption | refine Below.drew ?_ | refine below_drewN ?_ _ | refine Below.alloc ?_ (by first | omega | (simp; omega) | simp) _ | refine Below.setCell ?_ (by first | omega | (simp; omega) | simp) _)) (hb2.mono (by first | omega | (simp; omega) | simp))
        clear hb2
        cases x
        · have HF : Hid (sameAll ks ks' = false) := HR.out.trans (by rw [HD.out, Bool.false_and])
          go_wp2
          go_ret
          exact ⟨ret_bool HF.out.symm, hw2⟩
        · go_wp2
          go_roundw
          case rel => exact ⟨j + 1, by omega, by go_num, HR.out.trans (by rw [HD.out, Bool.true_and]), hw2⟩
          case measure => simp [intOf]; omega
      · obtain rfl : j = n := by omega
        have HF : Hid (sameAll ks ks' = true) := HR.out.trans (by rw [List.drop_of_length_le (by rw [← HN.out]; omega), List.drop_of_length_le (by rw [← HN'.out]; omega), sameAll])
        go_wp2
        go_ret
        exact ⟨ret_bool HF.out.symm, hwr⟩
  · have HF : Hid (sameAll ks ks' = false) := sameAll_len _ _ (by rw [← HN.out, ← HN'.out]; exact hnn)
    have hb : ((n : Int) != (n' : Int)) = true := by rw [bne_iff_ne]; omega
    go_enter Try.func25, Try.ntmps25
    go_wp2
    go_ret
    exact ⟨ret_bool HF.out.symm, Below.refl _ _⟩

set_option maxRecDepth 100000 in
theorem same_any (t : Tr) : SameAt t := by
  refine Tr.ind (P := SameAt) ?_ t
  intro r f u ks ih t' cs cs' w S ht ht' hS
  cases t' with
  | mk r' f' u' ks' =>
  obtain ⟨A, cp, rfl, hk⟩ := ht.kids
  obtain ⟨A', cp', rfl, hk'⟩ := ht'.kids
  have hcall := fun (W : World) (hW : Below w.heap.size w W) => equalF_any ks ks' ih A A' ks.length ks'.length cp cp' W S (hk.keep (fun _ h => h) (fun p hp => hW.cell (hS _ hp))) (hk'.keep (fun _ h => h) (fun p hp => hW.cell (hS _ hp))) (fun b h => by have := hS _ h; have := hW.size; omega)
  have HCall := Lib.hid hcall
  have HF : Hid (sameT (.mk r f u ks) (.mk r' f' u' ks') = (r == r' && (f == f' && (u == u' && sameAll ks ks')))) := by show _ = _; rw [sameT]
  clear hcall ih ht ht' hk hk'
  generalize sameAll ks ks' = x at HCall HF
  cases h1 : (r == r')
  · go_enter Try.func9, Try.ntmps9
    go_wp2
    go_ret
    exact ⟨ret_bool (by rw [HF.out, h1]; rfl), (by repeat (first | exact Below.refl _ _ | assumption | refine Below.drew ?_ | refine below_drewN ?_ _ | refine Below.alloc ?_ (by first | omega | (simp; omega) | simp) _ | refine Below.setCell ?_ (by first | omega | (simp; omega) | simp) _))⟩
  cases h2 : (f == f')
  · go_enter Try.func9, Try.ntmps9
    go_wp2
    go_ret
    exact ⟨ret_bool (by rw [HF.out, h1, h2]; rfl), (by repeat (first | exact Below.refl _ _ | assumption | refine Below.drew ?_ | refine below_drewN ?_ _ | refine Below.alloc ?_ (by first | omega | (simp; omega) | simp) _ | refine Below.setCell ?_ (by first | omega | (simp; omega) | simp) _))⟩
  cases h3 : (u == u')
  · go_enter Try.func9, Try.ntmps9
    go_wp2
    go_ret
    exact ⟨ret_bool (by rw [HF.out, h1, h2, h3]; rfl), (by repeat (first | exact Below.refl _ _ | assumption | refine Below.drew ?_ | refine below_drewN ?_ _ | refine Below.alloc ?_ (by first | omega | (simp; omega) | simp) _ | refine Below.setCell ?_ (by first | omega | (simp; omega) | simp) _))⟩
  rw [h1, h2, h3] at HF
  go_enter Try.func9, Try.ntmps9
  go_wp2_with fail
  refine (HCall.out _ (by repeat (first | exact Below.refl _ _ | assumption | refine Below.drew ?_ | refine below_drewN ?_ _ | refine Below.alloc ?_ (by first | omega | (simp; omega) | simp) _ | refine Below.setCell ?_ (by first | omega | (simp; omega) | simp) _))).mono ?_
  rintro e w2 ⟨rfl, hb2⟩
  have hw2 : Below w.heap.size w w2 := Below.trans (by repeat (first | exact Below.refl _ _ | assumption | refine Below.drew ?_ | refine below_drewN ?_ _ | refine Below.alloc ?_ (by first | omega | (simp; omega) | simp) _ | refine Below.setCell ?_ (by first | omega | (simp; omega) | simp) _)) (hb2.mono (by first | omega | (simp; omega) | simp)); have hzw2 := hw2.size; clear hb2
  go_wp2
  go_ret
  exact ⟨ret_bool (by rw [HF.out]; simp), hw2⟩
end Go.Proofs.Ytndhbdbfjkmloaa
namespace Go.Proofs.Ytndhbdbfjkmloaa
open Go.RowKit

/-- an expression: kind, the four words of its set, its text, its kids -/
inductive Ex where
  | mk (k a b c d : Int) (t : ByteArray) (ks : List Ex)

theorem Ex.ind {P : Ex → Prop} (h : ∀ k a b c d t ks, (∀ e ∈ ks, P e) → P (.mk k a b c d t ks)) (e : Ex) : P e := by
  refine Ex.rec (motive_1 := P) (motive_2 := fun ks => ∀ e ∈ ks, P e) ?_ ?_ ?_ e
  · exact fun k a b c d t ks ih => h k a b c d t ks ih
  · exact fun e he => by cases he
  · intro e es h1 h2 e' he
    rcases List.mem_cons.1 he with rfl | he
    · exact h1
    · exact h2 _ he

/-- the cells of an expression, and that all below it can be read below block B -/
inductive ExIs (w : World) (B : Nat) : Ex → List Value → Prop
  | mk (k a b c d : Int) (t : ByteArray) (ks : List Ex) (A : Option Addr) (cp : Nat) (row : Nat → List Value) :
      t.size ≤ maxLen → ks.length ≤ cp → cp ≤ maxLen → (A = none → cp = 0) → (0 < ks.length → ∃ ad : Addr, A = some ad ∧ ad.block < B) →
      (∀ i e, ks[i]? = some e → ExIs w B e (row i)) →
      (∀ i e ad, ks[i]? = some e → A = some ad → ∀ j u, (row i)[j]? = some u → w.cell? ((ad.add (i * 7)).add j) = some u) →
      ExIs w B (.mk k a b c d t ks) [.int .i64 k, .int .u64 a, .int .u64 b, .int .u64 c, .int .u64 d, .string t, .slice A ks.length cp]

theorem ExIs.keep {w w' : World} {B B' : Nat} {e : Ex} {cs : List Value} (h : ExIs w B e cs) (hB : B ≤ B') (hk : ∀ p : Addr, p.block < B → w'.cell? p = w.cell? p) : ExIs w' B' e cs := by
  induction h with
  | mk k a b c d t ks A cp row ht hl hm hn hb hr hc ih =>
    refine .mk k a b c d t ks A cp row ht hl hm hn (fun h0 => ?_) ih fun i e ad he hA j u hu => ?_
    · obtain ⟨ad, e, h1⟩ := hb h0
      exact ⟨ad, e, Nat.lt_of_lt_of_le h1 hB⟩
    · obtain ⟨ad', e', h1⟩ := hb (by have := getElem?_lt he; omega)
      rw [hA] at e'
      injection e' with e'
      subst e'
      rw [hk _ (by rw [add_block, add_block]; exact h1)]
      exact hc i e ad he hA j u hu
theorem ExIs.on {w w' : World} {B : Nat} {e : Ex} {cs : List Value} (h : ExIs w B e cs) (hb : Below B w w') : ExIs w' B e cs := h.keep (Nat.le_refl _) fun _ => hb.cell
end Go.Proofs.Ytndhbdbfjkmloaa
namespace Go.Proofs.Ytndhbdbfjkmloaa
open Go.RowKit

/-- the byte at place k, as a number -/
def bt (l : List UInt8) (k : Nat) : Nat := (l.getD k 0).toNat
theorem bt_of {s : ByteArray} {k : Nat} (h : k < s.size) : s[k].toNat = bt s.data.toList k := by
  have h' : k < s.data.toList.length := by simpa using h
  unfold bt
  rw [List.getD_eq_getElem?_getD, List.getElem?_eq_getElem h']
  rfl
theorem bt_lt (l : List UInt8) (k : Nat) : bt l k < 256 := (l.getD k 0).toNat_lt

theorem size_list (s : ByteArray) : s.data.toList.length = s.size := by simp

end Go.Proofs.Ytndhbdbfjkmloaa
namespace Go.Proofs.Ytndhbdbfjkmloaa
open Go.RowKit

/-- a letter or a digit, as a number -/
def isLet (c : Nat) : Bool := decide (97 ≤ c ||| 32) && decide (c ||| 32 ≤ 122)
def isDig (c : Nat) : Bool := decide (48 ≤ c) && decide (c ≤ 57)
def nameAt (l : List UInt8) (i : Nat) : Bool := isLet (bt l i) || (i != 0 && isDig (bt l i))
def nameB (l : List UInt8) : Bool := decide (l ≠ []) && decide (l.length ≤ 8) && (List.range l.length).all (nameAt l)

theorem or32 (c : Nat) (h : c < 256) : bits .or .u8 (c : Int) 32 = ((c ||| 32 : Nat) : Int) := by
  have h' : ∀ n : Fin 256, bits .or .u8 ((n : Nat) : Int) 32 = (((n : Nat) ||| 32 : Nat) : Int) := by decide +kernel
  exact h' ⟨c, h⟩
theorem name_no {l : List UInt8} {k : Nat} (hk : k < l.length) (h : nameAt l k = false) : nameB l = false := by
  unfold nameB
  have : (List.range l.length).all (nameAt l) = false := by
    rw [List.all_eq_false]
    exact ⟨k, by simpa using hk, by simp [h]⟩
  rw [this, Bool.and_false]
theorem name_yes {l : List UInt8} (h0 : l ≠ []) (h8 : l.length ≤ 8) (h : ∀ i, i < l.length → nameAt l i = true) : nameB l = true := by
  unfold nameB
  simp [h0, h8]
  exact h

theorem name_any (s : ByteArray) (w : World) : Calls Try.prog 64 #[.string s] w fun e w' => e = .returned (.bool (nameB s.data.toList)) ∧ w = w' := by
  have HL := Lib.hid (size_list s)
  by_cases h0 : s.size = 0
  · have he : s.toList = [] := by rw [ByteArray.toList_eq]; exact List.eq_nil_of_length_eq_zero (by rw [HL.out]; exact h0)
    have he' : (!s.toList.isEmpty) = false := by rw [he]; rfl
    have HF : Hid (nameB s.data.toList = false) := by
      show _ = _
      rw [List.eq_nil_of_length_eq_zero (HL.out.trans h0)]; rfl
    go_enter Try.func64, Try.ntmps64
    go_wp2
    go_ret
    exact ⟨ret_bool HF.out.symm, rfl⟩
  have hne : s.data.toList ≠ [] := fun h => h0 (by rw [← HL.out, h]; rfl)
  have he : s.toList.isEmpty = false := by rw [ByteArray.toList_eq]; cases h : s.data.toList with
    | nil => exact absurd h hne
    | cons _ _ => rfl
  have HNE := Lib.hid hne
  clear hne
  by_cases h8 : 8 < s.size
  · have HF : Hid (nameB s.data.toList = false) := by
      show _ = _
      unfold nameB; rw [HL.out]; simp; omega
    go_enter Try.func64, Try.ntmps64
    go_wp2
    go_ret
    exact ⟨ret_bool HF.out.symm, rfl⟩
  go_enter Try.func64, Try.ntmps64
  go_wp2
  go_loop [3, 4, 14] (fun _ _ i => ∃ k : Nat, k ≤ s.size ∧ i = .int .i64 k ∧ ∀ j, j < k → nameAt s.data.toList j = true) (fun _ _ i => s.size - (intOf i).toNat)
  case atStart => exact ⟨0, by omega, rfl, fun j h => by omega⟩
  case round =>
    obtain ⟨k, hk, rfl, hr⟩ := hrel
    have HR := Lib.hid hr
    clear hr
    by_cases hkn : k < s.size
    · have hb := bt_of hkn
      have hor := or32 (bt s.data.toList k) (bt_lt _ _)
      have HA : Hid (nameAt s.data.toList k = (isLet (bt s.data.toList k) || (k != 0 && isDig (bt s.data.toList k)))) := by exact rfl
      generalize hc : bt s.data.toList k = c at hb hor HA
      generalize hd : c ||| 32 = d at hor
      have HLt : Hid (isLet c = (decide (97 ≤ d) && decide (d ≤ 122))) := by show _ = _; rw [← hd]; rfl
      clear hc hd
      have hcase : nameAt s.data.toList k = true ∨ nameAt s.data.toList k = false := by cases nameAt s.data.toList k <;> simp
      by_cases h1 : 97 ≤ d
      · have i1 : ((97 : Int) ≤ (d : Int)) := by omega
        by_cases h2 : d ≤ 122
        · have i2 : ((d : Int) ≤ 122) := by omega
          have HY : Hid (nameAt s.data.toList k = true) := by show _ = _; rw [HA.out, HLt.out]; simp [h1, h2]
          go_wp2
          go_round
          case rel => exact ⟨k + 1, by omega, by go_num, fun j hj => by
            by_cases hjk : j < k
            · exact HR.out j hjk
            · obtain rfl : j = k := by omega
              exact HY.out⟩
          case measure => simp [intOf]; omega
        · have i2 : (((d : Int) ≤ 122)) = False := by simp; omega
          have HN : Hid (isLet c = false) := by show _ = _; rw [HLt.out]; simp; omega
          by_cases hk0 : k = 0
          · subst hk0
            have HY : Hid (nameB s.data.toList = false) := name_no (k := 0) (by rw [HL.out]; omega) (by rw [HA.out, HN.out]; rfl)
            go_wp2
            go_ret
            exact ⟨ret_bool HY.out.symm, rfl⟩
          have bk0 : (((k : Nat) : Int) == 0) = false := by rw [beq_eq_false_iff_ne]; omega
          have bk1 : (k != 0) = true := by rw [bne_iff_ne]; exact hk0
          by_cases h3 : c < 48
          · have i3 : ((c : Int) < 48) := by omega
            have HY : Hid (nameB s.data.toList = false) := name_no (k := k) (by rw [HL.out]; omega) (by rw [HA.out, HN.out]; simp [isDig]; omega)
            go_wp2
            go_ret
            exact ⟨ret_bool HY.out.symm, rfl⟩
          · have i3 : ((c : Int) < 48) = False := by simp; omega
            by_cases h4 : 57 < c
            · have i4 : ((57 : Int) < (c : Int)) := by omega
              have HY : Hid (nameB s.data.toList = false) := name_no (k := k) (by rw [HL.out]; omega) (by rw [HA.out, HN.out]; simp [isDig]; omega)
              go_wp2
              go_ret
              exact ⟨ret_bool HY.out.symm, rfl⟩
            · have i4 : ((57 : Int) < (c : Int)) = False := by simp; omega
              have HY : Hid (nameAt s.data.toList k = true) := by show _ = _; rw [HA.out, HN.out]; simp [isDig, bk1]; omega
              go_wp2
              go_round
              case rel => exact ⟨k + 1, by omega, by go_num, fun j hj => by
                by_cases hjk : j < k
                · exact HR.out j hjk
                · obtain rfl : j = k := by omega
                  exact HY.out⟩
              case measure => simp [intOf]; omega
      · have i1 : (((97 : Int) ≤ (d : Int))) = False := by simp; omega
        have HN : Hid (isLet c = false) := by show _ = _; rw [HLt.out]; simp; omega
        by_cases hk0 : k = 0
        · subst hk0
          have HY : Hid (nameB s.data.toList = false) := name_no (k := 0) (by rw [HL.out]; omega) (by rw [HA.out, HN.out]; rfl)
          go_wp2
          go_ret
          exact ⟨ret_bool HY.out.symm, rfl⟩
        have bk0 : (((k : Nat) : Int) == 0) = false := by rw [beq_eq_false_iff_ne]; omega
        have bk1 : (k != 0) = true := by rw [bne_iff_ne]; exact hk0
        by_cases h3 : c < 48
        · have i3 : ((c : Int) < 48) := by omega
          have HY : Hid (nameB s.data.toList = false) := name_no (k := k) (by rw [HL.out]; omega) (by rw [HA.out, HN.out]; simp [isDig]; omega)
          go_wp2
          go_ret
          exact ⟨ret_bool HY.out.symm, rfl⟩
        · have i3 : ((c : Int) < 48) = False := by simp; omega
          by_cases h4 : 57 < c
          · have i4 : ((57 : Int) < (c : Int)) := by omega
            have HY : Hid (nameB s.data.toList = false) := name_no (k := k) (by rw [HL.out]; omega) (by rw [HA.out, HN.out]; simp [isDig]; omega)
            go_wp2
            go_ret
            exact ⟨ret_bool HY.out.symm, rfl⟩
          · have i4 : ((57 : Int) < (c : Int)) = False := by simp; omega
            have HY : Hid (nameAt s.data.toList k = true) := by show _ = _; rw [HA.out, HN.out]; simp [isDig, bk1]; omega
            go_wp2
            go_round
            case rel => exact ⟨k + 1, by omega, by go_num, fun j hj => by
              by_cases hjk : j < k
              · exact HR.out j hjk
              · obtain rfl : j = k := by omega
                exact HY.out⟩
            case measure => simp [intOf]; omega
    · obtain rfl : k = s.size := by omega
      go_wp2
      go_ret
      exact ⟨ret_bool (name_yes HNE.out (by rw [HL.out]; omega) (by rw [HL.out]; exact HR.out)).symm, rfl⟩
end Go.Proofs.Ytndhbdbfjkmloaa
namespace Go.Proofs.Ytndhbdbfjkmloaa
open Go.RowKit

theorem u64_info : (Try.prog.info? 22).map (fun i => (i.zero, i.size, i.bytes)) = some (some (.int .u64 0), 1, 8) := by kernel_rfl
theorem u64_cells : Try.prog.cellsOf 22 = 1 := by kernel_rfl
theorem part_u64 (w : World) (cs : Array Value) (i : Nat) (x : Int) (h : cs[i]? = some (.int .u64 x)) : (part 22 cs i).run Try.prog w = .ok (.int .u64 x) w := by
  have hu := Try.underlying22
  simp [part, isAgg, run_underlying hu, h]
theorem run_eq_u64 (w : World) (d : Nat) (a b : Int) : (Op.equalIn (d + 1) 22 (.int .u64 a) (.int .u64 b)).run Try.prog w = .ok (a == b) w := run_equalIn_int w d _ .u64 .u64 a b Try.underlying22
/-- sets are compared word by word -/
theorem run_same_set (w : World) (a b c d a' b' c' d' : Int) : (Op.equalIn 10000 24 (.agg #[.int .u64 a, .int .u64 b, .int .u64 c, .int .u64 d]) (.agg #[.int .u64 a', .int .u64 b', .int .u64 c', .int .u64 d'])).run Try.prog w = .ok (a == a' && (b == b' && (c == c' && d == d'))) w := by
  obtain ⟨i, hi, _⟩ := info_parts u64_info
  show (Op.equalIn (9999 + 1) 24 _ _).run Try.prog w = _
  rw [run_equalIn_array w 9999 _ _ Try.underlying24 hi, u64_cells]
  show (Op.eqItems (9998 + 1) 22 1 _ _ [0, 1, 2, 3]).run _ _ = _
  generalize 9998 = n
  simp only [Op.eqItems, Sem.run_bind, part_u64 w #[.int .u64 a, .int .u64 b, .int .u64 c, .int .u64 d] (0 * 1) a rfl, part_u64 w #[.int .u64 a, .int .u64 b, .int .u64 c, .int .u64 d] (1 * 1) b rfl, part_u64 w #[.int .u64 a, .int .u64 b, .int .u64 c, .int .u64 d] (2 * 1) c rfl, part_u64 w #[.int .u64 a, .int .u64 b, .int .u64 c, .int .u64 d] (3 * 1) d rfl,
    part_u64 w #[.int .u64 a', .int .u64 b', .int .u64 c', .int .u64 d'] (0 * 1) a' rfl, part_u64 w #[.int .u64 a', .int .u64 b', .int .u64 c', .int .u64 d'] (1 * 1) b' rfl, part_u64 w #[.int .u64 a', .int .u64 b', .int .u64 c', .int .u64 d'] (2 * 1) c' rfl, part_u64 w #[.int .u64 a', .int .u64 b', .int .u64 c', .int .u64 d'] (3 * 1) d' rfl, run_eq_u64, Result.andThen_ok, Sem.run_ite, Sem.run_pure]
  cases a == a' <;> cases b == b' <;> cases c == c' <;> cases d == d' <;> simp
end Go.Proofs.Ytndhbdbfjkmloaa
namespace Go.Proofs.Ytndhbdbfjkmloaa
open Go.RowKit

/-- how many kids a kind of node may have -/
def lims (k : Int) (t : List UInt8) : Option (Nat × Nat) :=
  if k = 1 ∨ k = 2 then some (0, 0)
  else if k = 3 then (if t ≠ [] ∧ t.length ≤ 12 then some (0, 0) else none)
  else if k = 4 then (if nameB t = true then some (0, 0) else none)
  else if k = 5 ∨ k = 6 then some (2, 8)
  else if 7 ≤ k ∧ k ≤ 11 then some (1, 1)
  else none
def fitB (k a b c d : Int) (t : List UInt8) (n : Nat) : Bool :=
  match lims k t with
  | none => false
  | some (lo, hi) => (decide (k = 3 ∨ k = 4) || decide (t = [])) && (decide (k = 2) || (a == 0 && (b == 0 && (c == 0 && d == 0)))) && decide (lo ≤ n) && decide (n ≤ hi)

/-- an expression's cells -/
def exCells (k a b c d : Int) (t : ByteArray) (A : Option Addr) (n cp : Nat) : List Value := [.int .i64 k, .int .u64 a, .int .u64 b, .int .u64 c, .int .u64 d, .string t, .slice A n cp]

set_option linter.unusedSimpArgs false in
set_option maxHeartbeats 8000000 in
set_option maxRecDepth 100000 in
theorem fit_any (k a b c d : Int) (t : ByteArray) (A : Option Addr) (n cp : Nat) (w : World) :
    Calls Try.prog 43 #[.agg #[.int .i64 k, .int .u64 a, .int .u64 b, .int .u64 c, .int .u64 d, .string t, .slice A n cp]] w fun e w' => e = .returned (.bool (fitB k a b c d t.data.toList n)) ∧ Below w.heap.size w w' := by
  have HL := Lib.hid (size_list t)
  have hq := fun w => run_same_set w a b c d 0 0 0 0
  generalize hz : (a == 0 && (b == 0 && (c == 0 && d == 0))) = z at hq
  have HF : Hid (fitB k a b c d t.data.toList n = match lims k t.data.toList with
    | none => false
    | some (lo, hi) => (decide (k = 3 ∨ k = 4) || decide (t.data.toList = [])) && (decide (k = 2) || z) && decide (lo ≤ n) && decide (n ≤ hi)) := by show _ = _; rw [← hz]; rfl
  clear hz
  by_cases h12 : k ∈ [1, 2, 5, 6, 7, 8, 9, 10, 11]
  · simp only [List.mem_cons, List.not_mem_nil, or_false] at h12
    by_cases ht : t.size = 0
    · have he : t.toList = [] := by rw [ByteArray.toList_eq]; exact List.eq_nil_of_length_eq_zero (by rw [HL.out]; exact ht)
      have he' : (!t.toList.isEmpty) = false := by rw [he]; rfl
      have hd : t.data.toList = [] := List.eq_nil_of_length_eq_zero (by rw [HL.out]; exact ht)
      rw [hd] at HF ⊢
      clear he hd
      by_cases hz : k = 2 ∨ z = true
      · by_cases hlo : (if k = 1 ∨ k = 2 then 0 else if k = 5 ∨ k = 6 then 2 else 1) ≤ n
        · rcases h12 with rfl | rfl | rfl | rfl | rfl | rfl | rfl | rfl | rfl <;> simp at hlo hz
          all_goals
            try subst hz
            try subst hlo
            go_enter Try.func43, Try.ntmps43
            go_wp2
            go_ret
            refine ⟨ret_bool ?_, (by repeat (first | exact Below.refl _ _ | assumption | refine Below.drew ?_ | refine below_drewN ?_ _ | refine Below.alloc ?_ (by first | omega | (simp; omega) | simp) _ | refine Below.setCell ?_ (by first | omega | (simp; omega) | simp) _))⟩
            first | exact HF.out.symm | (rw [HF.out]; simp only [lims, Int.reduceEq, Int.reduceLE, or_false, false_or, or_true, true_or, if_true, if_false, and_self, and_true, true_and]; first | (simp [*]; done) | (simp [*]; omega))
        · rcases h12 with rfl | rfl | rfl | rfl | rfl | rfl | rfl | rfl | rfl <;> simp at hlo hz
          all_goals
            try subst hz
            try subst hlo
            go_enter Try.func43, Try.ntmps43
            go_wp2
            go_ret
            refine ⟨ret_bool ?_, (by repeat (first | exact Below.refl _ _ | assumption | refine Below.drew ?_ | refine below_drewN ?_ _ | refine Below.alloc ?_ (by first | omega | (simp; omega) | simp) _ | refine Below.setCell ?_ (by first | omega | (simp; omega) | simp) _))⟩
            first | exact HF.out.symm | (rw [HF.out]; simp only [lims, Int.reduceEq, Int.reduceLE, or_false, false_or, or_true, true_or, if_true, if_false, and_self, and_true, true_and]; first | (simp [*]; done) | (simp [*]; omega))
      · obtain rfl : z = false := by cases z <;> simp_all
        rcases h12 with rfl | rfl | rfl | rfl | rfl | rfl | rfl | rfl | rfl <;> simp at hz
        all_goals
          go_enter Try.func43, Try.ntmps43
          go_wp2
          go_ret
          refine ⟨ret_bool ?_, (by repeat (first | exact Below.refl _ _ | assumption | refine Below.drew ?_ | refine below_drewN ?_ _ | refine Below.alloc ?_ (by first | omega | (simp; omega) | simp) _ | refine Below.setCell ?_ (by first | omega | (simp; omega) | simp) _))⟩
          first | exact HF.out.symm | (rw [HF.out]; simp only [lims, Int.reduceEq, Int.reduceLE, or_false, false_or, or_true, true_or, if_true, if_false, and_self, and_true, true_and]; first | (simp [*]; done) | (simp [*]; omega))
    · have hd : t.data.toList ≠ [] := fun h => ht (by rw [← HL.out, h]; rfl)
      have he : t.toList.isEmpty = false := by rw [ByteArray.toList_eq]; cases h : t.data.toList with
        | nil => exact absurd h hd
        | cons _ _ => rfl
      rcases h12 with rfl | rfl | rfl | rfl | rfl | rfl | rfl | rfl | rfl
      all_goals
        go_enter Try.func43, Try.ntmps43
        go_wp2
        go_ret
        refine ⟨ret_bool ?_, (by repeat (first | exact Below.refl _ _ | assumption | refine Below.drew ?_ | refine below_drewN ?_ _ | refine Below.alloc ?_ (by first | omega | (simp; omega) | simp) _ | refine Below.setCell ?_ (by first | omega | (simp; omega) | simp) _))⟩
        first | exact HF.out.symm | (rw [HF.out]; simp only [lims, Int.reduceEq, Int.reduceLE, or_false, false_or, or_true, true_or, if_true, if_false, and_self, and_true, true_and]; first | (simp [*]; done) | (simp [*]; omega))
  · simp only [List.mem_cons, List.not_mem_nil, or_false] at h12
    by_cases h3 : k = 3
    · subst h3
      by_cases ht : t.size = 0
      · have he : t.toList = [] := by rw [ByteArray.toList_eq]; exact List.eq_nil_of_length_eq_zero (by rw [HL.out]; exact ht)
        have he' : (!t.toList.isEmpty) = false := by rw [he]; rfl
        have hd : t.data.toList = [] := List.eq_nil_of_length_eq_zero (by rw [HL.out]; exact ht)
        rw [hd] at HF ⊢
        clear hd h12
        rw [show lims 3 [] = none from rfl] at HF
        go_enter Try.func43, Try.ntmps43
        go_wp2
        go_ret
        refine ⟨ret_bool ?_, (by repeat (first | exact Below.refl _ _ | assumption | refine Below.drew ?_ | refine below_drewN ?_ _ | refine Below.alloc ?_ (by first | omega | (simp; omega) | simp) _ | refine Below.setCell ?_ (by first | omega | (simp; omega) | simp) _))⟩
        first | exact HF.out.symm | (rw [HF.out]; simp only [lims, Int.reduceEq, Int.reduceLE, or_false, false_or, or_true, true_or, if_true, if_false, and_self, and_true, true_and]; first | (simp [*]; done) | (simp [*]; omega))
      · have hd : t.data.toList ≠ [] := fun h => ht (by rw [← HL.out, h]; rfl)
        have he : t.toList.isEmpty = false := by rw [ByteArray.toList_eq]; cases h : t.data.toList with
          | nil => exact absurd h hd
          | cons _ _ => rfl
        have hl : t.data.toList.length = t.size := HL.out
        by_cases h12' : 12 < t.size
        · clear h12
          rw [show lims 3 t.data.toList = none by unfold lims; rw [hl]; simp; omega] at HF
          go_enter Try.func43, Try.ntmps43
          go_wp2
          go_ret
          refine ⟨ret_bool ?_, (by repeat (first | exact Below.refl _ _ | assumption | refine Below.drew ?_ | refine below_drewN ?_ _ | refine Below.alloc ?_ (by first | omega | (simp; omega) | simp) _ | refine Below.setCell ?_ (by first | omega | (simp; omega) | simp) _))⟩
          first | exact HF.out.symm | (rw [HF.out]; simp only [lims, Int.reduceEq, Int.reduceLE, or_false, false_or, or_true, true_or, if_true, if_false, and_self, and_true, true_and]; first | (simp [*]; done) | (simp [*]; omega))
        · have hle : t.size ≤ 12 := by omega
          clear h12
          rw [show lims 3 t.data.toList = some (0, 0) by unfold lims; rw [hl]; simp; exact ⟨by simpa using hd, hle⟩] at HF
          cases z
          all_goals
            go_enter Try.func43, Try.ntmps43
            go_wp2
            go_ret
            refine ⟨ret_bool ?_, (by repeat (first | exact Below.refl _ _ | assumption | refine Below.drew ?_ | refine below_drewN ?_ _ | refine Below.alloc ?_ (by first | omega | (simp; omega) | simp) _ | refine Below.setCell ?_ (by first | omega | (simp; omega) | simp) _))⟩
            first | exact HF.out.symm | (rw [HF.out]; simp only [lims, Int.reduceEq, Int.reduceLE, or_false, false_or, or_true, true_or, if_true, if_false, and_self, and_true, true_and]; first | (simp [*]; done) | (simp [*]; omega))
    · by_cases h4 : k = 4
      · subst h4
        clear h12 h3
        cases hn : nameB t.data.toList
        · go_enter Try.func43, Try.ntmps43
          go_wp2_with (go_at_call 64; refine (name_any _ _).mono ?_; rintro e w' ⟨rfl, rfl⟩)
          go_ret
          refine ⟨ret_bool ?_, (by repeat (first | exact Below.refl _ _ | assumption | refine Below.drew ?_ | refine below_drewN ?_ _ | refine Below.alloc ?_ (by first | omega | (simp; omega) | simp) _ | refine Below.setCell ?_ (by first | omega | (simp; omega) | simp) _))⟩
          first | exact HF.out.symm | (rw [HF.out]; simp only [lims, Int.reduceEq, Int.reduceLE, or_false, false_or, or_true, true_or, if_true, if_false, and_self, and_true, true_and]; first | (simp [*]; done) | (simp [*]; omega))
        · cases z
          all_goals
            go_enter Try.func43, Try.ntmps43
            go_wp2_with (go_at_call 64; refine (name_any _ _).mono ?_; rintro e w' ⟨rfl, rfl⟩)
            go_ret
            refine ⟨ret_bool ?_, (by repeat (first | exact Below.refl _ _ | assumption | refine Below.drew ?_ | refine below_drewN ?_ _ | refine Below.alloc ?_ (by first | omega | (simp; omega) | simp) _ | refine Below.setCell ?_ (by first | omega | (simp; omega) | simp) _))⟩
            first | exact HF.out.symm | (rw [HF.out]; simp only [lims, Int.reduceEq, Int.reduceLE, or_false, false_or, or_true, true_or, if_true, if_false, and_self, and_true, true_and]; first | (simp [*]; done) | (simp [*]; omega))
      · have hl : lims k t.data.toList = none := by
          unfold lims
          rw [if_neg (by omega), if_neg h3, if_neg h4, if_neg (by omega), if_neg (by omega)]
        rw [hl] at HF
        clear hl
        simp only [not_or] at h12
        obtain ⟨k1, k2, k5, k6, k7, k8, k9, k10, k11⟩ := h12
        go_enter Try.func43, Try.ntmps43
        go_wp2
        go_ret
        exact ⟨ret_bool HF.out.symm, (by repeat (first | exact Below.refl _ _ | assumption | refine Below.drew ?_ | refine below_drewN ?_ _ | refine Below.alloc ?_ (by first | omega | (simp; omega) | simp) _ | refine Below.setCell ?_ (by first | omega | (simp; omega) | simp) _))⟩
end Go.Proofs.Ytndhbdbfjkmloaa
