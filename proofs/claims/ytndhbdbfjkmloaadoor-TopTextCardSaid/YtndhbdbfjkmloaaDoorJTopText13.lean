/- expr.All as an iterator; what expr.Refs collects, plain. What expr.Refs answers. What gram.Check answers. What set.First answers. What set.Has and set.Bytes answer. -/
import Derived.Test.YtndhbdbfjkmloaaDoorJTopText12
import Derived.Test.YtndhbdbfjkmloaaDoorJTopText2
import Derived.Maps.OwnIn
import Derived.Maps.Views
import Derived.Maps.AppendAt
import Derived.Test.YtndhbdbfjkmloaaDoorJTopText1
import Derived.Test.YtndhbdbfjkmloaaDoorJTopText0
namespace Go.Proofs.YtndhbdbfjkmloaaDoor
set_option maxHeartbeats 1000000
set_option maxRecDepth 100000
open Go.RowKit Go.Shelf
attribute [local go_sem] Oper.semAt_some
theorem all1_in (F : Fence) (hd : F.depth = none) (n : Nat) (h1 : F.fn 96) (h2 : F.fn 97) (hro : F.round = none) (l Bt n₀ : Nat) (e : Ex) (cs : List Value) (J Jx : List Nd -> World -> Prop)
    (hJ : ∀ pre W o, J pre W -> J pre (W.alloc o)) (hn : ∀ pre W, J pre W -> n₀ <= W.heap.size)
    (hY : ∀ pre x W, J pre W -> pre.length < (preE e).length -> YieldAt F (n - 1) Tryd.prog l #[x.val] W fun e W' =>
      (e = .returned (.bool true) /\ J (pre ++ [x]) W' /\ KeepE n₀ W W') \/ (e = .returned (.bool false) /\ Jx (pre ++ [x]) W'))
    (W : World) (hB : Blk W Bt 27 cs.toArray) (hE : ExIs W n₀ e cs) (h0 : J [] W) :
    CallsIn F n Tryd.prog 96 #[.func (.yield l) #[] #[], .pointer (some ⟨Bt, 0, none⟩)] W fun e' W' => (∃ v, e' = .returned v) /\
      ((∃ ys : List Nd, ys.map Nd.kt = preE e /\ J ys W') \/ (∃ pre : List Nd, True /\ Jx pre W')) := by
  have hdd : ∀ k : Nat, (F.depth.isSome = true -> 1 <= k) := fun k h => by rw [hd] at h; cases h
  have hp := all_in F hd h2 hro l n₀ (preE e).length J Jx hJ hn (fun m pre x W hj hl => yield_any hd m (hY pre x W hj hl)) e (n - 1) cs [] W hE h0 (by simp)
  cases e with
  | mk k a b c d t ks =>
  obtain ⟨ht, A, cp, rfl, hkc, hcm, _⟩ := hE.shape
  have x0 : W.cell? ⟨Bt, 0, none⟩ = some (.int .i64 k) := hB.cell 0
  have x1 : W.cell? ⟨Bt, 1, none⟩ = some (.int .u64 a) := hB.cell 1
  have x2 : W.cell? ⟨Bt, 2, none⟩ = some (.int .u64 b) := hB.cell 2
  have x3 : W.cell? ⟨Bt, 3, none⟩ = some (.int .u64 c) := hB.cell 3
  have x4 : W.cell? ⟨Bt, 4, none⟩ = some (.int .u64 d) := hB.cell 4
  have x5 : W.cell? ⟨Bt, 5, none⟩ = some (.string t) := hB.cell 5
  have x6 : W.cell? ⟨Bt, 6, none⟩ = some (.slice A ks.length cp) := hB.cell 6
  unfold exCells at hp
  have HP := Lib.hid hp
  clear hp hB hE
  refine callsIn_of_wp Tryd.func96 rfl h1 ?_ hro
  simp only [Tryd.ntmps96, List.size_toArray, List.length_cons, List.length_nil, Nat.reduceAdd, Nat.reduceSub, Array.replicate_succ, Array.replicate_zero, List.push_toArray, List.append_toArray, List.nil_append, List.cons_append]
  gi_wp2_with ((try refine ⟨hdd _, ?_⟩); gi_at_call 97; refine HP.out.mono ?_; rintro e W1 (⟨rfl, ⟨ys, hy, hJ1⟩, _⟩ | ⟨rfl, q, hx⟩))
  · go_end0
    exact ⟨⟨_, rfl⟩, .inl ⟨ys, hy, by simpa using hJ1⟩⟩
  · go_end0
    exact ⟨⟨_, rfl⟩, .inr ⟨_, trivial, hx⟩⟩
theorem allf_in (F : Fence) (n : Nat) (h4 : F.fn 71) (hro : F.round = none) (k a b c d : Int) (t : ByteArray) (A : Option Addr) (m cp : Nat) (w : World) :
    CallsIn F n Tryd.prog 71 #[.agg #[.int .i64 k, .int .u64 a, .int .u64 b, .int .u64 c, .int .u64 d, .string t, .slice A m cp]] w fun e w' =>
      e = .returned (.func (.func 96) #[] #[.pointer (some ⟨w.heap.size, 0, none⟩)]) /\ w' = w.alloc (.cells #[.int .i64 k, .int .u64 a, .int .u64 b, .int .u64 c, .int .u64 d, .string t, .slice A m cp] 27) := by
  refine callsIn_of_wp Tryd.func71 rfl h4 ?_ hro
  simp only [Tryd.ntmps71, List.size_toArray, List.length_cons, List.length_nil, Nat.reduceAdd, Nat.reduceSub, Array.replicate_succ, Array.replicate_zero, List.push_toArray, List.append_toArray, List.nil_append, List.cons_append]
  gi_wp2
  go_ret
  exact ⟨rfl, rfl⟩
theorem keepE_put {n₀ B : Nat} (h : n₀ <= B) (W : World) (l : Nat) (o o' : Obj) (hl : B <= l) (ho : W.heap[l]? = some o) (hc : o.isCells = false) (_ : o.isWalk = false) : KeepE n₀ W (W.putObj l o') :=
  ⟨⟨rfl, rfl, rfl, by simp, fun k hk => World.putObj_heap_other (by omega)⟩, fun k cs hk => by
    have hk' : W.heap[k]? = some (.cells cs 27 (0, 0)) := hk
    have hne : k ≠ l := fun e => by subst e; rw [hk'] at ho; cases ho; cases hc
    exact (World.putObj_heap_other hne).trans hk⟩
theorem KeepE.grown {n₀ : Nat} {W W' : World} {row : Option Nat} (hb : Below n₀ W W') (hg : W.grownBy W' row) (hr : ∀ r cs, row = some r -> ¬ Blk W r 27 cs) : KeepE n₀ W W' :=
  ⟨hb, fun k cs hk => (hg.block k hk.lt (fun e => hr k cs e.symm hk)).trans hk⟩
theorem all_stops (F : Fence) (hd : F.depth = none) (n : Nat) (h1 : F.fn 96) (h2 : F.fn 97) (hro : F.round = none) (Bt n₀ : Nat) (e : Ex) (cs : List Value) (w : World) (hn₀ : n₀ <= w.heap.size)
    (hB : Blk w Bt 27 cs.toArray) (hE : ExIs w n₀ e cs) :
    SeqStopsK F n Tryd.prog 96 #[.pointer (some ⟨Bt, 0, none⟩)] (fun x : Nd => #[x.val]) (KeepE n₀) (fun ys => ys.map Nd.kt = preE e) (fun _ => True) (preE e).length w := by
  intro l J Jx W hW hJ _ hY h0
  refine (all1_in F hd n h1 h2 hro l Bt n₀ e cs (fun pre W => J pre W /\ n₀ <= W.heap.size /\ AbidesFrom W.heap.size J) Jx (fun pre W1 o h => ?_) (fun pre W1 h => h.2.1) (fun pre x W1 hj hl => ?_) W (hB.below hW hB.lt) (hE.on (hW.mono hn₀)) ⟨h0, Nat.le_trans hn₀ hW.size, hJ⟩).mono ?_
  · refine ⟨h.2.2 _ _ _ none h.1 (World.grownBy_alloc _ _ _) (fun r e => by cases e), by have := h.2.1; simp; omega, fun s X Y row hs hg hr => h.2.2 s X Y row hs hg fun r e => ?_⟩
    have := hr r e
    exact ⟨by have := this.1; simp at this; omega, this.2⟩
  · refine YieldAt.mono (hY pre x W1 hj.1 hl) fun e W2 h => h.elim (fun ⟨he, hj2, hk⟩ => .inl ⟨he, ⟨hj2, Nat.le_trans hj.2.1 hk.below.size, fun s X Y row hs hg hr => hj.2.2 s X Y row hs hg fun r e => ?_⟩, hk⟩) .inr
    have := hr r e
    exact ⟨Nat.le_trans hk.below.size this.1, this.2⟩
  · rintro e' W' ⟨hv, h | h⟩
    · obtain ⟨ys, hy, hj⟩ := h
      exact ⟨hv, .inl ⟨ys, hy, hj.1⟩⟩
    · exact ⟨hv, .inr h⟩
theorem own_not_blk {w : World} {base : Nat} {e : TypeId} {size : Nat} {v : Value} {n : Nat} {xs : List Value} (h : w.ownsRow base e size v n xs) {g : Nat} {t : TypeId} {cs : Array Value} (hb : Blk w g t cs) (hte : t ≠ e) : some g ≠ v.ownBlock := by
  rcases h.2 with ⟨rfl, _⟩ | ⟨g', cap, cur, rfl, _, hgb, _⟩
  · simp [Value.ownBlock]
  · intro e'
    obtain rfl : g = g' := by simpa [Value.ownBlock] using e'
    have := (show w.heap[g]? = _ from hb).symm.trans hgb
    simp at this
    exact hte this.2
instance lawfulBytes : LawfulBEq ByteArray where
  rfl := by
    intro a
    obtain ⟨a⟩ := a
    show (a == a) = true
    simp
  eq_of_beq := by
    intro a b h
    obtain ⟨a⟩ := a
    obtain ⟨b⟩ := b
    have h' : (a == b) = true := h
    rw [eq_of_beq h']
def refStep (acc : List ByteArray) (p : Int × ByteArray) : List ByteArray := if p.1 = 4 /\ p.2 ∉ acc then acc ++ [p.2] else acc
def refsL (l : List (Int × ByteArray)) : List ByteArray := l.foldl refStep []
def refsE (e : Ex) : List ByteArray := refsL (preE e)
theorem refsL_snoc (l : List (Int × ByteArray)) (p : Int × ByteArray) : refsL (l ++ [p]) = refStep (refsL l) p := by simp [refsL]
theorem refs_len (l : List (Int × ByteArray)) : (refsL l).length <= l.length := by
  suffices h : ∀ (l : List (Int × ByteArray)) acc, (l.foldl refStep acc).length <= acc.length + l.length by simpa [refsL] using h l []
  intro l
  induction l with
  | nil => intro acc; simp
  | cons p l ih =>
    intro acc
    have := ih (refStep acc p)
    have h2 : (refStep acc p).length <= acc.length + 1 := by
      unfold refStep
      split <;> simp
    simp
    omega
section
variable {H : Type}
def seenR : List ByteArray -> DataW H
  | [] => .map []
  | s :: l => (seenR l).put (.string s.data.toList) (.lit (.int .i64 1))
def seenD (acc : List ByteArray) : DataW H := seenR acc.reverse
theorem seenR_map : ∀ l : List ByteArray, Maps.IsMap (seenR (H := H) l)
  | [] => Maps.isMap_empty
  | _ :: l => (seenR_map l).put _ _
theorem seenR_at (s : ByteArray) : ∀ l : List ByteArray, (seenR (H := H) l).atKey (.string s.data.toList) (.lit (.int .i64 0)) = .lit (.int .i64 (if s ∈ l then 1 else 0))
  | [] => by simp [seenR, DataW.atKey]
  | x :: l => by
    unfold seenR
    by_cases h : s = x
    · subst h
      rw [Maps.atKey_put_same (seenR_map l) (by simp [WideAt.IsKeyLit])]
      simp
    · have hne : (Lit.string s.data.toList) ≠ .string x.data.toList := by
        intro e
        injection e with e
        exact h (by obtain ⟨⟨u⟩⟩ := s; obtain ⟨⟨v⟩⟩ := x; simp at e; rw [e])
      rw [Maps.atKey_put_other hne, seenR_at s l]
      simp [h]
theorem seenD_at (s : ByteArray) (acc : List ByteArray) : (seenD (H := H) acc).atKey (.string s.data.toList) (.lit (.int .i64 0)) = .lit (.int .i64 (if s ∈ acc then 1 else 0)) := by
  unfold seenD
  rw [seenR_at]
  simp
theorem seenD_snoc (s : ByteArray) (acc : List ByteArray) : seenD (H := H) (acc ++ [s]) = (seenD acc).put (.string s.data.toList) (.lit (.int .i64 1)) := by
  simp [seenD, seenR]
end
theorem preEs_len (ks : List Ex) (h : ∀ e ∈ ks, (preE e).length = nodes e) : (preEs ks).length = nodesAll ks := by
  induction ks with
  | nil => simp [preEs, nodesAll]
  | cons e es ih => simp [preEs, nodesAll, h e (by simp), ih (fun e he => h e (by simp [he]))]
theorem preE_len (e : Ex) : (preE e).length = nodes e := by
  refine Ex.ind (P := fun e => (preE e).length = nodes e) ?_ e
  intro k a b c d t ks ih
  simp [preE, nodes, preEs_len ks ih]
  omega
theorem nodes_le {e : Ex} (h : checkE e = 0) : nodes e <= 60 := by
  have h1 := look_ok _ 0 1 h 0 1 (Nat.le_refl _) (Nat.le_refl _)
  have h2 := (lookN_le e 0 1 (by omega)).2 h
  rw [h1] at h2
  simpa using h2
end Go.Proofs.YtndhbdbfjkmloaaDoor
namespace Go.Proofs.YtndhbdbfjkmloaaDoor
set_option maxHeartbeats 4000000
set_option maxRecDepth 100000
open Go.RowKit Go.Shelf
attribute [local go_sem] Oper.semAt_some
theorem info_string : (Tryd.prog.info? 9).map (fun i => (i.zero, i.size, i.bytes)) = some (some (.string ByteArray.empty), 1, 16) := by kernel_rfl
theorem zero_int (w : World) : (zeroValue 3).run Tryd.prog w = .ok (.int .i64 0) w := by kernel_rfl
def RefsQ (w : World) (e : Ex) (e' : Ending) (w' : World) : Prop := ∃ A n cp ls, e' = .returned (.tuple #[.slice A n cp, .int .i64 (checkE e)]) /\ ls = (if checkE e = 0 then refsE e else []) /\ Reads w' w'.heap.size 1 A n (ls.map Value.string) /\ Below w.heap.size w w'
theorem refs_any (e : Ex) (cs : List Value) (w : World) (hE : ExIs w w.heap.size e cs) : Calls Tryd.prog 36 #[.agg cs.toArray] w (RefsQ w e) := by
  have hro : Fence.wide.round = none := rfl
  have hd : Fence.wide.depth = none := rfl
  have hmm := @run_makeMap Tryd.prog
  obtain ⟨i0, hi, hz0, hz1, hz2⟩ := info_parts info_string
  have hck := fun W (hW : Below w.heap.size w W) => check_expr e cs W (hE.keep hW.size (fun p hp => hW.cell hp))
  have HCK := Lib.hid hck
  clear hck
  have HE := Lib.hid hE
  cases e with
  | mk k a b c d t ks =>
  obtain ⟨ht, A, cp, rfl, hkc, hcm, _⟩ := hE.shape
  unfold exCells at *
  clear hE
  refine (callsIn_wide (n := 5)).1 ?_
  by_cases h0 : checkE (.mk k a b c d t ks) = 0
  · have h60 := nodes_le h0
    have HQ : Hid ((if checkE (.mk k a b c d t ks) = 0 then refsE (.mk k a b c d t ks) else []) = refsE (.mk k a b c d t ks)) := if_pos h0
    rw [h0] at HCK
    have H0 := Lib.hid h0
    clear h0
    refine callsIn_of_wp_marks Tryd.func36 rfl trivial ?_ hro
    simp only [Tryd.ntmps36, List.size_toArray, List.length_cons, List.length_nil, Nat.reduceAdd, Nat.reduceSub, Array.replicate_succ, Array.replicate_zero, List.push_toArray, List.append_toArray, List.nil_append, List.cons_append]
    gi_wp2_with (first
      | (refine ⟨trivial, ?_⟩; gi_at_call 15; refine (callsIn_wide.2 (HCK.out _ bl)).mono ?_; rintro e w1 ⟨rfl, hb1⟩; have hbx : Blk (((w1.alloc (.cells #[.slice none 0 0] 74)).alloc (.map #[] 0)).alloc (.cells #[.map (some (w1.heap.size + 1))] 120)) w.heap.size 27 #[.int .i64 k, .int .u64 a, .int .u64 b, .int .u64 c, .int .u64 d, .string t, .slice A ks.length cp] := (((((blk_at rfl).below hb1 (by simp)).alloc _).alloc _).alloc _); have x0 : (((w1.alloc (.cells #[.slice none 0 0] 74)).alloc (.map #[] 0)).alloc (.cells #[.map (some (w1.heap.size + 1))] 120)).cell? ⟨w.heap.size, 0, none⟩ = some (.int .i64 k) := hbx.cell 0; have x1 : (((w1.alloc (.cells #[.slice none 0 0] 74)).alloc (.map #[] 0)).alloc (.cells #[.map (some (w1.heap.size + 1))] 120)).cell? ⟨w.heap.size, 1, none⟩ = some (.int .u64 a) := hbx.cell 1; have x2 : (((w1.alloc (.cells #[.slice none 0 0] 74)).alloc (.map #[] 0)).alloc (.cells #[.map (some (w1.heap.size + 1))] 120)).cell? ⟨w.heap.size, 2, none⟩ = some (.int .u64 b) := hbx.cell 2; have x3 : (((w1.alloc (.cells #[.slice none 0 0] 74)).alloc (.map #[] 0)).alloc (.cells #[.map (some (w1.heap.size + 1))] 120)).cell? ⟨w.heap.size, 3, none⟩ = some (.int .u64 c) := hbx.cell 3; have x4 : (((w1.alloc (.cells #[.slice none 0 0] 74)).alloc (.map #[] 0)).alloc (.cells #[.map (some (w1.heap.size + 1))] 120)).cell? ⟨w.heap.size, 4, none⟩ = some (.int .u64 d) := hbx.cell 4; have x5 : (((w1.alloc (.cells #[.slice none 0 0] 74)).alloc (.map #[] 0)).alloc (.cells #[.map (some (w1.heap.size + 1))] 120)).cell? ⟨w.heap.size, 5, none⟩ = some (.string t) := hbx.cell 5; have x6 : (((w1.alloc (.cells #[.slice none 0 0] 74)).alloc (.map #[] 0)).alloc (.cells #[.map (some (w1.heap.size + 1))] 120)).cell? ⟨w.heap.size, 6, none⟩ = some (.slice A ks.length cp) := hbx.cell 6)
      | (refine ⟨trivial, ?_⟩; gi_at_call 71; refine (allf_in Fence.wide _ trivial hro _ _ _ _ _ _ _ _ _ _).mono ?_; rintro e w2 ⟨rfl, rfl⟩))
    clear x0 x1 x2 x3 x4 x5 x6 hbx
    have hzz : w.heap.size < w1.heap.size := by have := hb1.size; simp at this; omega
    have hw1 : Below w.heap.size w w1 := ((Below.refl _ w).alloc (Nat.le_refl _) _).trans (hb1.mono (by simp))
    have bO := (((Boxed.new w1 74 (.slice none 0 0)).alloc (.map #[] 0)).alloc (.cells #[.map (some (w1.heap.size + 1))] 120)).alloc (.cells #[.int .i64 k, .int .u64 a, .int .u64 b, .int .u64 c, .int .u64 d, .string t, .slice A ks.length cp] 27)
    have hm0 := ((World.ownsMap_made (w1.alloc (.cells #[.slice none 0 0] 74)) Tryd.prog 9 (plainElem (H := Unit) Tryd.prog 3)).alloc (.cells #[.map (some (w1.heap.size + 1))] 120)).alloc (.cells #[.int .i64 k, .int .u64 a, .int .u64 b, .int .u64 c, .int .u64 d, .string t, .slice A ks.length cp] 27)
    have bM := (Boxed.new ((w1.alloc (.cells #[.slice none 0 0] 74)).alloc (.map #[] 0)) 120 (.map (some (w1.heap.size + 1)))).alloc (.cells #[.int .i64 k, .int .u64 a, .int .u64 b, .int .u64 c, .int .u64 d, .string t, .slice A ks.length cp] 27)
    have bE : Blk ((((w1.alloc (.cells #[.slice none 0 0] 74)).alloc (.map #[] 0)).alloc (.cells #[.map (some (w1.heap.size + 1))] 120)).alloc (.cells #[.int .i64 k, .int .u64 a, .int .u64 b, .int .u64 c, .int .u64 d, .string t, .slice A ks.length cp] 27)) (w1.heap.size + 1 + 1 + 1) 27 #[.int .i64 k, .int .u64 a, .int .u64 b, .int .u64 c, .int .u64 d, .string t, .slice A ks.length cp] := blk_at (by simp)
    simp only [World.size_alloc] at bO hm0 bM bE
    have hB0 : Below w.heap.size w ((((w1.alloc (.cells #[.slice none 0 0] 74)).alloc (.map #[] 0)).alloc (.cells #[.map (some (w1.heap.size + 1))] 120)).alloc (.cells #[.int .i64 k, .int .u64 a, .int .u64 b, .int .u64 c, .int .u64 d, .string t, .slice A ks.length cp] 27)) := (((hw1.alloc (by omega) _).alloc (by simp; omega) _).alloc (by simp; omega) _).alloc (by simp; omega) _
    refine wpIn_rangeFunc_ownH hro (by omega) (gf := 96) (lb := #[.pointer (some ⟨w1.heap.size + 1 + 1 + 1, 0, none⟩)]) rfl trivial (enters_of Tryd.func96 (by kernel_rfl) rfl)
      (all_stops Fence.wide hd (5 - 1) trivial trivial hro (w1.heap.size + 1 + 1 + 1) w.heap.size (.mk k a b c d t ks) _ _ (by simp; omega) bE (HE.out.on hB0)) KeepE.trans (keepE_put (by simp; omega)) (Below.refl _ _) (fun _ => rfl)
      (fun pre W => ((∃ v, Boxed W w1.heap.size 74 v /\ W.ownsRow w.heap.size 9 1 v (refsL (pre.map Nd.kt)).length ((refsL (pre.map Nd.kt)).map Value.string) /\ True) /\
        Boxed W (w1.heap.size + 1 + 1) 120 (.map (some (w1.heap.size + 1))) /\ W.ownsMap Tryd.prog 9 (plainElem (H := Unit) Tryd.prog 3) (w1.heap.size + 1) pre.length (seenD (refsL (pre.map Nd.kt)))) /\ Below w.heap.size w W)
      (fun _ _ _ => False)
      (OwnFrom.and (OwnFrom.and (Own.from (holdsRow_own w.heap.size w1.heap.size 74 9 1 (fun pre : List Nd => (refsL (pre.map Nd.kt)).length) (fun pre => (refsL (pre.map Nd.kt)).map Value.string) (fun _ _ => True)) _)
        (OwnFrom.and (Own.from (boxed_own _ _ (fun _ => .map (some (w1.heap.size + 1)))) _) (fun s X Y row hs hg hr => hs.kept hg (fun e => by have := (hr _ e.symm).1; simp at this; omega)))) (ownFrom_below (Nat.le_refl _) (by simp; omega)))
      (fun _ _ _ _ _ hs _ _ => hs)
      ⟨⟨⟨_, bO, World.ownsRow_nil _ _ _ _, trivial⟩, bM, hm0⟩, hB0⟩
      (fun x a' W => ∃ Bx, w1.heap.size + 1 + 1 < Bx /\ Blk W Bx 27 #[.int .i64 x.k, .int .u64 x.a, .int .u64 x.b, .int .u64 x.c, .int .u64 x.d, .string x.t, .slice x.A x.n x.cp] /\
        a' = { tmps := #[.agg #[.int .i64 k, .int .u64 a, .int .u64 b, .int .u64 c, .int .u64 d, .string t, .slice A ks.length cp], .pointer (some ⟨w.heap.size, 0, none⟩), .slice none 0 0, .int .i64 0, .int .i64 0, .pointer (some ⟨w1.heap.size, 0, none⟩), .pointer (some ⟨w1.heap.size + 1 + 1, 0, none⟩), .pointer (some ⟨Bx, 0, none⟩),
          .agg #[.int .i64 k, .int .u64 a, .int .u64 b, .int .u64 c, .int .u64 d, .string t, .slice A ks.length cp], .int .i64 0, .int .i64 0, .bool false, undef, .map (some (w1.heap.size + 1)), .agg #[.int .i64 k, .int .u64 a, .int .u64 b, .int .u64 c, .int .u64 d, .string t, .slice A ks.length cp], .func (.func 96) #[] #[.pointer (some ⟨w1.heap.size + 1 + 1 + 1, 0, none⟩)], x.val,
          undef, undef, undef, undef, undef, undef, undef, undef, undef, undef, undef, undef, undef, undef, undef, undef, undef, undef, undef], defers := [] })
      (fun x a' _ X Y row hs hg hr => by
        obtain ⟨Bx, h1, h2, h3⟩ := hs
        refine ⟨Bx, h1, h2.grown hg (fun e => ?_), h3⟩
        obtain ⟨_, o, ho, hc⟩ := hr Bx e.symm
        rw [show X.heap[Bx]? = _ from h2] at ho
        cases ho
        cases hc)
      ?assign ?body ?done ?stop
    case assign =>
      rintro l pre x W K ⟨⟨⟨v, hv, hrow, -⟩, hbM, hown⟩, hB⟩ hK
      have hvl := hbM.lt
      dsimp only [Nd.val]
      gi_wp2
      exact hK _ _ ((KeepsOthers.alloc _ _).from _) ((KeepE.refl _ _).alloc hB.size _) ⟨⟨⟨v, hv.alloc _, hrow.alloc _, trivial⟩, hbM.alloc _, hown.alloc _⟩, hB.alloc hB.size _⟩ ⟨W.heap.size, hvl, blk_at rfl, rfl⟩
    case body =>
      rintro l pre x a' W hl ⟨r, hr⟩ ⟨⟨⟨v, hv, hrow, -⟩, hbM, hown⟩, hB⟩ ⟨Bx, hBx, bX, rfl⟩ hlt
      have hcv := hv.cell
      have hcm := hbM.cell
      have c0 : W.cell? ⟨Bx, 0, none⟩ = some (.int .i64 x.k) := bX.cell 0
      have c5 : W.cell? ⟨Bx, 5, none⟩ = some (.string x.t) := bX.cell 5
      have hkey := Go.WideMaps.keyOf_string_mk Tryd.underlying9 x.ht
      have hlen := refs_len (pre.map Nd.kt)
      have hmk : (pre ++ [x]).map Nd.kt = pre.map Nd.kt ++ [(x.k, x.t)] := by simp [Nd.kt]
      have hpl : pre.length < 60 := by rw [preE_len] at hlt; omega
      rw [List.length_map] at hlen
      have HMK := Lib.hid hmk
      clear hmk hlt
      by_cases hk4 : x.k = 4
      · by_cases hin : x.t ∈ refsL (pre.map Nd.kt)
        · obtain ⟨c, hrun, hat, _⟩ := hown.lookup_int (Maps.string_keyed Tryd.underlying9) Tryd.underlying120 Tryd.underlying3 (zero_int _) hkey
          rw [seenD_at, if_pos hin] at hat
          obtain rfl : c = 1 := by injection hat with hat; injection hat with _ hat; exact hat.symm
          have HR : Hid (refsL ((pre ++ [x]).map Nd.kt) = refsL (pre.map Nd.kt)) := by
            show _ = _
            rw [HMK.out, refsL_snoc, refStep, if_neg (by simp [hin])]
          have HIN := Lib.hid hin
          have hk4' : (x.k == 4) = true := by rw [beq_iff_eq]; exact hk4
          clear hat hin hk4
          gi_wp2
          exact ⟨KeepsFrom.refl _ _, KeepE.refl _ _, ⟨⟨v, hv, by rw [HR.out]; exact hrow, trivial⟩, hbM, by rw [HR.out, List.length_append]; exact hown.mono (by simp)⟩, hB⟩
        · obtain ⟨c, hrun, hat, _⟩ := hown.lookup_int (Maps.string_keyed Tryd.underlying9) Tryd.underlying120 Tryd.underlying3 (zero_int _) hkey
          rw [seenD_at, if_neg hin] at hat
          obtain rfl : c = 0 := by injection hat with hat; injection hat with _ hat; exact hat.symm
          have HR : Hid (refsL ((pre ++ [x]).map Nd.kt) = refsL (pre.map Nd.kt) ++ [x.t]) := by
            show _ = _
            rw [HMK.out, refsL_snoc, refStep, if_pos ⟨hk4, hin⟩]
          have hk4' : (x.k == 4) = true := by rw [beq_iff_eq]; exact hk4
          clear hat hin hk4
          have hmh : ∃ o : Obj, W.heap[w1.heap.size + 1]? = some o /\ o.isCells = false := by
            obtain ⟨es, ck, hh, _⟩ := hown
            exact ⟨_, hh, rfl⟩
          have HMH := Lib.hid hmh
          clear hmh
          have hnr : ∀ r, some (w1.heap.size + 1) = some r -> ∃ o : Obj, W.heap[r]? = some o /\ o.isCells = false := fun r e => by cases e; exact HMH.out
          have HNR := Lib.hid hnr
          clear hnr
          have hrk := fun (W' : World) (hg : W.grownBy W' (some (w1.heap.size + 1))) => (holdsRow_own w.heap.size w1.heap.size 74 9 1 (fun _ : Unit => (refsL (pre.map Nd.kt)).length) (fun _ => (refsL (pre.map Nd.kt)).map Value.string) (fun _ u => u = v)) () W W' _ ⟨v, hv, hrow, rfl⟩ hg HNR.out
          have HRK := Lib.hid hrk
          clear hrk
          gi_wp2_with (first
            | (gi_at_mapUpdate; refine wpListIn_mapUpdate_own _ rfl _ _ _ 120 rfl 9 3 (Maps.string_keyed Tryd.underlying9) Tryd.underlying120 _ (w1.heap.size + 1) pre.length _ rfl hown (by unfold maxLen; omega) _ _ _ rfl rfl hkey _ [] (plainElem_int Tryd.underlying3 (by decide)) ?_; intro w2 hown2 hg2; obtain ⟨v2, hv2, hrow2, hvv⟩ := HRK.out w2 hg2; subst hvv; have hcv2 := hv2.cell; have c52 : w2.cell? ⟨Bx, 5, none⟩ = some (.string x.t) := (bX.grown hg2 (by simp; omega)).cell 5; have hz2' := hg2.size)
            | (gi_at_builtin; refine wpListIn_append_own _ rfl _ _ 74 rfl w.heap.size 9 i0 (.string ByteArray.empty) 1 16 Tryd.underlying74 hi hz0 hz1 hz2 rfl (by decide) _ _ _ rfl (hrow2.alloc _) ⟨w2.heap.size, 0, none⟩ 1 1 [.string x.t] rfl rfl (cell_one_new _ _ _) (by simp [Value.oneCell']) (by unfold maxLen; omega) (by omega) (by have := hB.size; simp; omega) ?_; intro v' w3 hown' hgrow _; obtain ⟨g', cap', rfl⟩ := ownsRow_succ hown'; obtain ⟨hv3, hv4, hr4, hk4, hb4⟩ := hv2.appended (by decide) hrow2 (Nat.le_trans hB.size hz2') (by omega) hown' hgrow; have hc3 := hv3.cell; have hf3 := hv3.frozen))
          have hbb : Below w.heap.size W w2 := (Below.refl _ W).grown hg2 hB.size (fun k e => by cases e; omega)
          have hbM3 : Boxed w3 (w1.heap.size + 1 + 1) 120 (.map (some (w1.heap.size + 1))) := (((hbM.kept hg2 (by simp)).alloc _).kept hgrow (((hbM.kept hg2 (by simp)).not_row (by decide) hrow2)))
          have hke : KeepE w.heap.size w2 (w3.setCell ⟨w1.heap.size, 0, none⟩ (.slice (some ⟨g', 0, none⟩) ((refsL (pre.map Nd.kt)).length + 1) cap')) := ⟨hb4, fun k' cs hk' => by
            have h3 : Blk w3 k' 27 cs := (hk'.alloc _).grown hgrow (own_not_blk hrow2 hk' (by decide))
            refine h3.far (fun e => ?_) _
            rw [show k' = w1.heap.size from e] at h3
            have h5 := hv3
            unfold Boxed at h5
            rw [show w3.heap[w1.heap.size]? = _ from h3] at h5
            simp at h5⟩
          refine ⟨(KeepsFrom.of_grownBy hg2 (fun j e => by cases e; simp)).trans (hk4.from _), (KeepE.grown hbb hg2 (fun r cs e hb => ?_)).trans hke, ⟨⟨_, And.intro hv4 ?_⟩, hbM3.other (by omega) _, ?_⟩, hB.trans (hbb.trans hb4)⟩
          · obtain ⟨o, ho, hc⟩ := HNR.out r e
            rw [show W.heap[r]? = _ from hb] at ho
            cases ho
            cases hc
          · rw [HR.out, List.length_append, List.map_append]
            exact hr4
          · obtain ⟨es, ck, hh, rest⟩ := hown2
            refine ⟨es, ck, hk4.same _ _ hh rfl, ?_⟩
            rw [HR.out, seenD_snoc, List.length_append]
            exact rest
      · have hk4' : (x.k == 4) = false := by rw [beq_eq_false_iff_ne]; exact hk4
        have HR : Hid (refsL ((pre ++ [x]).map Nd.kt) = refsL (pre.map Nd.kt)) := by
          show _ = _
          rw [HMK.out, refsL_snoc, refStep, if_neg (by simp [hk4])]
        clear hk4
        gi_wp2
        exact ⟨KeepsFrom.refl _ _, KeepE.refl _ _, ⟨⟨v, hv, by rw [HR.out]; exact hrow, trivial⟩, hbM, by rw [HR.out, List.length_append]; exact hown.mono (by simp)⟩, hB⟩
    case done =>
      rintro D ys W hD hys ⟨⟨⟨v, hv, hrow, -⟩, hbM, hown⟩, hB⟩ hK
      have hcv := hv.cell
      have HY := Lib.hid hys
      clear hys
      gi_wp2
      refine ⟨by simp, .inl ⟨_, _, rfl, run_takeDeferred hK, ?_⟩⟩
      obtain ⟨V, cq, rfl⟩ := own_form hrow
      have hrow2 := ownsRow_putObj hrow (.deferred none) hK rfl
      have hB2 : Below w.heap.size w (W.putObj D (.deferred none)) := hB.trans (belowK_b (w := w1) (by omega) W D _ _ (by simp at hD; omega) hK rfl rfl)
      have HR2 : Hid (Reads (W.putObj D (.deferred none)) (W.putObj D (.deferred none)).heap.size 1 V (refsL (ys.map Nd.kt)).length ((refsE (.mk k a b c d t ks)).map Value.string)) := by
        show Reads _ _ _ _ _ _
        rw [refsE, <- HY.out]
        exact Reads.of_own hrow2
      refine ⟨_, results_tmp2 rfl _ _ _, ?_⟩
      refine Exists.intro V (Exists.intro (refsL (ys.map Nd.kt)).length (Exists.intro cq (Exists.intro (refsE (.mk k a b c d t ks)) ⟨?_, HQ.out.symm, HR2.out, hB2⟩)))
      rw [H0.out]; rfl
    case stop =>
      rintro D c pre W _ _ h _
      exact h.elim
  · have HQ : Hid ((if checkE (.mk k a b c d t ks) = 0 then refsE (.mk k a b c d t ks) else []) = []) := if_neg h0
    have hxb : (checkE (.mk k a b c d t ks) != 0) = true := by rw [bne_iff_ne]; exact h0
    generalize hx : checkE (.mk k a b c d t ks) = x at hxb HCK
    have HX := Lib.hid hx
    clear hx h0
    refine callsIn_of_wp Tryd.func36 rfl trivial ?_ hro
    simp only [Tryd.ntmps36, List.size_toArray, List.length_cons, List.length_nil, Nat.reduceAdd, Nat.reduceSub, Array.replicate_succ, Array.replicate_zero, List.push_toArray, List.append_toArray, List.nil_append, List.cons_append]
    gi_wp2_with (refine ⟨trivial, ?_⟩; gi_at_call 15; refine (callsIn_wide.2 (HCK.out _ bl)).mono ?_; rintro e w1 ⟨rfl, hb1⟩)
    have hw1 : Below w.heap.size w w1 := ((Below.refl _ w).alloc (Nat.le_refl _) _).trans (hb1.mono (by simp))
    go_ret2
    exact ⟨none, 0, 0, [], by rw [HX.out]; rfl, HQ.out.symm, Reads.none_, hw1⟩
end Go.Proofs.YtndhbdbfjkmloaaDoor
namespace Go.Proofs.YtndhbdbfjkmloaaDoor
set_option maxHeartbeats 4000000
set_option maxRecDepth 100000
open Go.RowKit
def chk1 (g : List Rl) : List Rl -> Nat -> Nat -> Int × Nat
  | [], _, all => (0, all)
  | r :: rs, i, all => if nameB r.1.data.toList = false then (6, all) else if fnd g r.1.data.toList ≠ i then (7, all) else if checkE r.2 ≠ 0 then (checkE r.2, all) else chk1 g rs (i + 1) (all + nodes r.2)
def known1 (g : List Rl) : List ByteArray -> Bool
  | [] => true
  | s :: ss => if fnd g s.data.toList < 0 then false else known1 g ss
def refsC (e : Ex) : List ByteArray := if checkE e = 0 then refsE e else []
theorem refsC_len (e : Ex) : (refsC e).length <= 60 := by
  unfold refsC
  split
  · rename_i h
    have h1 := refs_len (preE e)
    have h2 := nodes_le h
    rw [preE_len] at h1
    exact Nat.le_trans h1 h2
  · simp
def chk2 (g : List Rl) : List Rl -> Int
  | [] => 0
  | r :: rs => if known1 g (refsC r.2) = false then 6 else chk2 g rs
def checkG (g : List Rl) : Int :=
  if g.length = 0 then 1 else if 10 < g.length then 2 else if (chk1 g g 0 0).1 ≠ 0 then (chk1 g g 0 0).1 else if 120 < (chk1 g g 0 0).2 then 2 else chk2 g g
theorem sizeE_of (e : Ex) : sizeE e = if checkE e = 0 then (nodes e, 0) else (0, checkE e) := by
  by_cases h : checkE e = 0
  · have h1 := look_ok _ 0 1 h 0 1 (Nat.le_refl _) (Nat.le_refl _)
    unfold sizeE
    rw [if_pos h, h1, if_pos rfl, Nat.zero_add]
  · rw [if_neg h]; exact size_bad h
theorem reads_str {w : World} {B n j : Nat} {A : Option Addr} {ls : List ByteArray} (h : Reads w B 1 A n (ls.map Value.string)) (hj : j < n) :
    ∃ ad s, A = some ad /\ ad.block < B /\ ls[j]? = some s /\ w.cell? (ad.add j) = some (.string s) := by
  obtain ⟨ad, u, e, hb, hx, hc⟩ := h.at_ hj
  simp only [List.getElem?_map, Option.map_eq_some_iff] at hx
  obtain ⟨s, hs, rfl⟩ := hx
  exact ⟨ad, s, e, hb, hs, hc⟩
theorem gcheck_any {g : List Rl} {A : Option Addr} {cp : Nat} {row : Nat -> List Value} {w : World} (h : GrIs w w.heap.size g A cp row) :
    Calls Tryd.prog 18 #[.agg #[.slice A g.length cp]] w fun e w' => e = .returned (.int .i64 (checkG g)) /\ Below w.heap.size w w' := by
  have HG := Lib.hid h
  clear h
  by_cases h0 : g.length = 0
  · have HF : Hid (checkG g = 1) := if_pos h0
    have hb : ((g.length : Int) == 0) = true := by rw [beq_iff_eq]; omega
    go_enter Tryd.func18, Tryd.ntmps18
    go_wp2
    go_ret
    exact ⟨ret_int HF.out.symm, bl⟩
  have hb0 : ((g.length : Int) == 0) = false := by rw [beq_eq_false_iff_ne]; omega
  by_cases h10 : 10 < g.length
  · have HF : Hid (checkG g = 2) := (if_neg h0).trans (if_pos h10)
    go_enter Tryd.func18, Tryd.ntmps18
    go_wp2
    go_ret
    exact ⟨ret_int HF.out.symm, bl⟩
  have HF : Hid (checkG g = if (chk1 g g 0 0).1 ≠ 0 then (chk1 g g 0 0).1 else if 120 < (chk1 g g 0 0).2 then 2 else chk2 g g) := (if_neg h0).trans (if_neg h10)
  have HC0 : Hid (chk1 g (g.drop 0) 0 0 = chk1 g g 0 0) := rfl
  generalize chk1 g g 0 0 = c1 at HF HC0
  go_enter Tryd.func18, Tryd.ntmps18
  go_wp2
  go_loopw [3, 4, 5, 6, 7, 25] (fun s3 _ _ _ _ i wr => ∃ j all : Nat, j <= g.length /\ i = .int .i64 j /\ s3 = .int .i64 all /\ all <= j * 60 /\ Hid (chk1 g (g.drop j) j all = c1) /\ Blk wr w.heap.size 39 #[.slice A g.length cp] /\ Below w.heap.size w wr) (fun _ _ _ _ _ i _ => g.length - (intOf i).toNat)
  case atStart => exact ⟨0, 0, by omega, rfl, rfl, by omega, HC0, blk_at rfl, bl⟩
  case round =>
    obtain ⟨j, all, hj, rfl, rfl, hall, HR, hbg, hwr⟩ := hrel
    have g0 : wr.cell? ⟨w.heap.size, 0, none⟩ = some (.slice A g.length cp) := hbg.cell 0
    have hgl := hbg.lt
    by_cases hjk : j < g.length
    · obtain ⟨ad, nm, k', a', b', c', d', t', ks', A', cp', rfl, hab, hej, hnm, hE, ⟨e0, e1, e2, e3, e4, e5, e6, e7⟩⟩ := (HG.out.on hwr).rule hjk
      have hwz := hwr.size
      have HD := Lib.hid (drop_of hej)
      have hfd := fun W (hW : Below w.heap.size w W) => find_any ((HG.out.on hW).more hW.size) nm
      have hsz := fun W (hW : Below w.heap.size wr W) => size_expr _ _ W ((hE.on hW).keep (Nat.le_trans hwz hW.size) fun _ _ => rfl)
      have hse := sizeE_of (.mk k' a' b' c' d' t' ks')
      unfold exCells at hsz
      have hnl : checkE (.mk k' a' b' c' d' t' ks') = 0 -> nodes (.mk k' a' b' c' d' t' ks') <= 60 := nodes_le
      generalize sizeE (.mk k' a' b' c' d' t' ks') = sz at hsz hse
      have HFD := Lib.hid hfd
      have HSZ := Lib.hid hsz
      have HSE := Lib.hid hse
      have HNL := Lib.hid hnl
      clear hE hej hfd hsz hse hnl
      have HCS : Hid (chk1 g (g.drop j) j all = if nameB nm.data.toList = false then (6, all) else if fnd g nm.data.toList ≠ j then (7, all) else if checkE (.mk k' a' b' c' d' t' ks') ≠ 0 then (checkE (.mk k' a' b' c' d' t' ks'), all) else chk1 g (g.drop (j + 1)) (j + 1) (all + nodes (.mk k' a' b' c' d' t' ks'))) := by
        show _ = _
        rw [HD.out, chk1]
      cases hnb : nameB nm.data.toList
      · have HFF : Hid (checkG g = 6) := by
          show _ = _
          rw [HF.out, <- HR.out, HCS.out, if_pos hnb]; simp
        have HN := Lib.hid hnb
        clear hnb
        go_wp2_with (go_at_call 33; refine (name_any nm _).mono ?_; rw [HN.out]; rintro e w1 ⟨rfl, rfl⟩)
        go_ret
        exact ⟨ret_int HFF.out.symm, bl⟩
      have HN := Lib.hid hnb
      clear hnb
      by_cases hf : fnd g nm.data.toList = j
      · rw [hf] at HFD
        have hjj : (((j : Nat) : Int) != (j : Int)) = false := by rw [bne_eq_false_iff_eq]
        have HCS2 : Hid (chk1 g (g.drop j) j all = if checkE (.mk k' a' b' c' d' t' ks') ≠ 0 then (checkE (.mk k' a' b' c' d' t' ks'), all) else chk1 g (g.drop (j + 1)) (j + 1) (all + nodes (.mk k' a' b' c' d' t' ks'))) := HCS.out.trans ((if_neg (by rw [HN.out]; decide)).trans (if_neg (by simp [hf])))
        clear HCS hf
        go_wp2_with (go_at_call 33; refine (name_any nm _).mono ?_; rw [HN.out]; rintro e w1 ⟨rfl, rfl⟩)
        refine (HFD.out _ bl).mono ?_
        rintro e w1 ⟨rfl, hb1⟩
        have hbg1 : Blk w1 w.heap.size 39 #[.slice (some ad) g.length cp] := (hbg.alloc _).below hb1 (by simp; omega)
        have hbx : Blk w1 wr.heap.size 71 #[.string nm, .int .i64 k', .int .u64 a', .int .u64 b', .int .u64 c', .int .u64 d', .string t', .slice A' ks'.length cp'] := (blk_at rfl).below hb1 (by simp)
        have hw1 : Below w.heap.size wr w1 := Below.trans bl (hb1.mono (by first | omega | (simp; omega) | simp)); have hzw1 := hw1.size
        clear hb1
        have x0 : w1.cell? ⟨wr.heap.size, 0, none⟩ = some (.string nm) := hbx.cell 0; have x1 : w1.cell? ⟨wr.heap.size, 1, none⟩ = some (.int .i64 k') := hbx.cell 1; have x2 : w1.cell? ⟨wr.heap.size, 2, none⟩ = some (.int .u64 a') := hbx.cell 2; have x3 : w1.cell? ⟨wr.heap.size, 3, none⟩ = some (.int .u64 b') := hbx.cell 3; have x4 : w1.cell? ⟨wr.heap.size, 4, none⟩ = some (.int .u64 c') := hbx.cell 4; have x5 : w1.cell? ⟨wr.heap.size, 5, none⟩ = some (.int .u64 d') := hbx.cell 5; have x6 : w1.cell? ⟨wr.heap.size, 6, none⟩ = some (.string t') := hbx.cell 6; have x7 : w1.cell? ⟨wr.heap.size, 7, none⟩ = some (.slice A' ks'.length cp') := hbx.cell 7
        go_wp2_with fail
        refine (HSZ.out _ hw1).mono ?_
        rintro e w2 ⟨rfl, hb2⟩
        have hw2 : Below w.heap.size w w2 := (hwr.trans hw1).trans (hb2.mono (by first | omega | (simp; omega) | simp))
        have hbg2 : Blk w2 w.heap.size 39 #[.slice (some ad) g.length cp] := hbg1.below hb2 hbg1.lt
        clear hb2 x0 x1 x2 x3 x4 x5 x6 x7 hbx
        by_cases hc : checkE (.mk k' a' b' c' d' t' ks') = 0
        · have HC3 : Hid (chk1 g (g.drop j) j all = chk1 g (g.drop (j + 1)) (j + 1) (all + nodes (.mk k' a' b' c' d' t' ks'))) := HCS2.out.trans (if_neg (by simp [hc]))
          have hnn := HNL.out hc
          obtain rfl : sz = (nodes (.mk k' a' b' c' d' t' ks'), 0) := HSE.out.trans (if_pos hc)
          generalize nodes (.mk k' a' b' c' d' t' ks') = m at HC3 hnn
          clear hc HCS2 HNL HSE
          have h600 : j * 60 <= 600 := by omega
          go_wp2
          go_roundw
          case rel => exact ⟨j + 1, all + m, by omega, by go_num, by go_num, by omega, by show _ = _; rw [<- HC3.out]; exact HR.out, hbg2, hw2⟩
          case measure => simp [intOf]; omega
        · have HC3 : Hid (checkG g = checkE (.mk k' a' b' c' d' t' ks')) := by
            show _ = _
            rw [HF.out, <- HR.out, HCS2.out, if_pos hc]; simp [hc]
          obtain rfl : sz = (0, checkE (.mk k' a' b' c' d' t' ks')) := HSE.out.trans (if_neg hc)
          have hcb : (checkE (.mk k' a' b' c' d' t' ks') != 0) = true := by rw [bne_iff_ne]; exact hc
          clear hc HCS2 HNL HSE
          generalize checkE (.mk k' a' b' c' d' t' ks') = m at HC3 hcb
          go_wp2
          go_ret
          exact ⟨ret_int HC3.out.symm, hw2⟩
      · have HFF : Hid (checkG g = 7) := by
          show _ = _
          rw [HF.out, <- HR.out, HCS.out.trans ((if_neg (by rw [HN.out]; decide)).trans (if_pos hf))]; simp
        have hjj : (fnd g nm.data.toList != (j : Int)) = true := by rw [bne_iff_ne]; exact hf
        generalize fnd g nm.data.toList = fn at hjj HFD
        clear hf HCS
        go_wp2_with (go_at_call 33; refine (name_any nm _).mono ?_; rw [HN.out]; rintro e w1 ⟨rfl, rfl⟩)
        refine (HFD.out _ bl).mono ?_
        rintro e w1 ⟨rfl, hb1⟩
        have hw1 : Below w.heap.size wr w1 := Below.trans bl (hb1.mono (by first | omega | (simp; omega) | simp)); have hzw1 := hw1.size
        clear hb1
        go_wp2
        go_ret
        exact ⟨ret_int HFF.out.symm, hwr.trans hw1⟩
    · obtain rfl : j = g.length := by omega
      have hc1 : c1 = (0, all) := by rw [<- HR.out, List.drop_length, chk1]
      subst hc1
      have HF2 : Hid (checkG g = if 120 < all then 2 else chk2 g g) := HF.out.trans (if_neg (by simp))
      clear HF HR
      have h600 : g.length * 60 <= 600 := by omega
      by_cases h120 : 120 < all
      · have HFF : Hid (checkG g = 2) := HF2.out.trans (if_pos h120)
        go_wp2
        go_ret
        exact ⟨ret_int HFF.out.symm, hwr⟩
      have HFF : Hid (chk2 g (g.drop 0) = checkG g) := (HF2.out.trans (if_neg h120)).symm
      clear HF2
      go_wp2
      go_loopw [9, 10, 11, 13, 58] (fun _ _ _ _ i wr => ∃ j : Nat, j <= g.length /\ i = .int .i64 j /\ Hid (chk2 g (g.drop j) = checkG g) /\ Blk wr w.heap.size 39 #[.slice A g.length cp] /\ Below w.heap.size w wr) (fun _ _ _ _ i _ => g.length - (intOf i).toNat)
      case atStart => exact ⟨0, by omega, rfl, HFF, hbg, hwr⟩
      case round =>
        clear hbg hwr g0 hgl HFF
        obtain ⟨j, hj, rfl, HR, hbg, hwr⟩ := hrel
        have g0 : wr.cell? ⟨w.heap.size, 0, none⟩ = some (.slice A g.length cp) := hbg.cell 0
        have hgl := hbg.lt
        by_cases hjk : j < g.length
        · obtain ⟨ad, nm, k', a', b', c', d', t', ks', A', cp', rfl, hab, hej, hnm, hE, ⟨e0, e1, e2, e3, e4, e5, e6, e7⟩⟩ := (HG.out.on hwr).rule hjk
          have hwz := hwr.size
          have HD := Lib.hid (drop_of hej)
          have hrf := fun W (hW : Below w.heap.size wr W) => refs_any _ _ W ((hE.on hW).keep (Nat.le_trans hwz hW.size) fun _ _ => rfl)
          unfold exCells at hrf
          have HRF := Lib.hid hrf
          have HCS : Hid (chk2 g (g.drop j) = if known1 g (refsC (.mk k' a' b' c' d' t' ks')) = false then 6 else chk2 g (g.drop (j + 1))) := by
            show _ = _
            rw [HD.out, chk2]
          have hrl := refsC_len (.mk k' a' b' c' d' t' ks')
          clear hE hej hrf
          go_wp2_with fail
          refine (HRF.out _ bl).mono ?_
          rintro e w1 ⟨A2, n2, cp2, ls, rfl, hls, hrd, hb1⟩
          have hn2 : ls.length = n2 := by have := hrd.len; simpa using this
          rw [<- show ls = refsC (.mk k' a' b' c' d' t' ks') from hls] at hrl HCS
          have HK0 : Hid (known1 g (ls.drop 0) = known1 g ls) := rfl
          generalize known1 g ls = kb at HK0 HCS
          have hbg1 : Blk w1 w.heap.size 39 #[.slice (some ad) g.length cp] := (hbg.alloc _).below hb1 (by simp; omega)
          have hw1 : Below w.heap.size wr w1 := Below.trans bl (hb1.mono (by first | omega | (simp; omega) | simp)); have hzw1 := hw1.size
          have hww1 : Below w.heap.size w w1 := hwr.trans hw1
          have HRD := Lib.hid hrd
          clear hb1 hls HRF
          generalize checkE (.mk k' a' b' c' d' t' ks') = ce
          have hm2 : n2 <= 9223372036854775807 := by omega
          go_wp2
          go_loopw [13, 70] (fun _ i wi => ∃ q : Nat, q <= n2 /\ i = .int .i64 q /\ Hid (known1 g (ls.drop q) = kb) /\ Below w1.heap.size w1 wi) (fun _ i _ => n2 - (intOf i).toNat)
          case atStart => exact ⟨0, by omega, rfl, HK0, Below.refl _ _⟩
          case round =>
            obtain ⟨q, hq, rfl, HK, hwi⟩ := hrel
            have g1 : wr.cell? ⟨w.heap.size, 0, none⟩ = some (.slice (some ad) g.length cp) := (hbg1.below hwi hbg1.lt).cell 0
            by_cases hqn : q < n2
            · obtain ⟨ad2, s, rfl, hab2, hsj, hcs⟩ := reads_str (HRD.out.on hwi (Nat.le_refl _)) hqn
              have hfd := fun W (hW : Below w.heap.size w W) => find_any ((HG.out.on hW).more hW.size) s
              have HD2 := Lib.hid (drop_of hsj)
              have HK2 : Hid (known1 g (ls.drop q) = if fnd g s.data.toList < 0 then false else known1 g (ls.drop (q + 1))) := by
                show _ = _
                rw [HD2.out, known1]
              generalize fnd g s.data.toList = f at hfd HK2
              have HFD := Lib.hid hfd
              have hwwi : Below w.heap.size w wr := hww1.trans (hwi.mono hww1.size)
              clear hfd hsj
              go_wp2_with fail
              refine (HFD.out _ hwwi).mono ?_
              rintro e w3 ⟨rfl, hb3⟩
              have hw3 : Below w1.heap.size w1 w3 := hwi.trans (hb3.mono hwi.size)
              have hww3 : Below w.heap.size w w3 := hwwi.trans (hb3.mono hwwi.size)
              clear hb3
              by_cases hf : f < 0
              · have HFF : Hid (checkG g = 6) := by
                  show _ = _
                  rw [<- HR.out, HCS.out, <- HK.out, HK2.out, if_pos hf, if_pos rfl]
                clear HCS
                go_wp2
                go_ret
                exact ⟨ret_int HFF.out.symm, hww3⟩
              · have hf' : (f < 0) = False := by simp; omega
                have HK3 : Hid (known1 g (ls.drop (q + 1)) = kb) := by
                  show _ = _
                  rw [<- HK.out, HK2.out, if_neg hf]
                clear HCS hf
                go_wp2
                go_roundw
                case rel => exact ⟨q + 1, by omega, by go_num, HK3, hw3⟩
                case measure => simp [intOf]; omega
            · obtain rfl : q = n2 := by omega
              have hkb : kb = true := by rw [<- HK.out, <- hn2, List.drop_length, known1]
              subst hkb
              have HR2 : Hid (chk2 g (g.drop (j + 1)) = checkG g) := by
                show _ = _
                rw [<- HR.out, HCS.out, if_neg (by simp)]
              have hwwi : Below w.heap.size w wr := hww1.trans (hwi.mono hww1.size)
              have hbgi := hbg1.below hwi hbg1.lt
              clear HCS HK HK0
              go_wp2
              go_roundw
              case rel => exact ⟨j + 1, by omega, by go_num, HR2, hbgi, hwwi⟩
              case measure => simp [intOf]; omega
        · obtain rfl : j = g.length := by omega
          have HFF : Hid (checkG g = 0) := by
            show _ = _
            rw [<- HR.out, List.drop_length, chk2]
          go_wp2
          go_ret
          exact ⟨ret_int HFF.out.symm, hwr⟩
theorem first_any (l : List Nat) (hl : Words l) (f : Nat) (hf : f <= 256) (w : World) (hT : TabAt w) :
    Calls Tryd.prog 85 #[vals l, .int .i64 f] w fun e w' => ∃ r, e = .returned (.int .i64 r) /\ FirstIs l f r /\ Below w.heap.size w w' := by
  have HL := Lib.hid hl
  have hpos := hT.pos
  have HT := Lib.hid hT
  clear hl hT
  unfold vals
  have hblk : ∀ W : World, Hid (∀ k, k < 4 -> Blk W w.heap.size 24 #[.int .u64 (l.getD 0 0 : Nat), .int .u64 (l.getD 1 0 : Nat), .int .u64 (l.getD 2 0 : Nat), .int .u64 (l.getD 3 0 : Nat)] -> W.cell? ⟨w.heap.size, k, none⟩ = some (.int .u64 (l.getD k 0 : Nat))) := fun W k hk hb => by
    rcases (by omega : k = 0 \/ k = 1 \/ k = 2 \/ k = 3) with rfl | rfl | rfl | rfl
    · exact hb.cell 0
    · exact hb.cell 1
    · exact hb.cell 2
    · exact hb.cell 3
  obtain ⟨q, hq⟩ : ∃ q : Nat, q = f / 64 := ⟨_, rfl⟩
  have hqi : (f : Int) / 64 = (q : Int) := by omega
  have HQ := Lib.hid hq
  clear hq
  have hmx : ∀ ts t w, (Builtin.max_ ts t #[.int .i64 0, .int .i64 (f : Int)]).run Tryd.prog w = .ok (.int .i64 (f : Int)) w := fun ts t w => by
    rw [run_max_int2]
    congr 2
    split <;> omega
  go_enter Tryd.func85, Tryd.ntmps85
  go_wp2
  go_loopw [5] (fun i wr => ∃ k : Nat, q <= k /\ (k <= 4 \/ k = q) /\ i = .int .i64 k /\ Hid (∀ j, f <= j -> j < 64 * k -> hasN l j = false) /\ Below w.heap.size w wr /\ Blk wr w.heap.size 24 #[.int .u64 (l.getD 0 0 : Nat), .int .u64 (l.getD 1 0 : Nat), .int .u64 (l.getD 2 0 : Nat), .int .u64 (l.getD 3 0 : Nat)]) (fun i _ => 4 - (intOf i).toNat)
  case atStart => exact ⟨q, by omega, by omega, rfl, fun j h1 h2 => by have := HQ.out; omega, bl, blk_at rfl⟩
  case round =>
    obtain ⟨i, hqk, hi4, rfl, HG, hbw, hb⟩ := hrel
    by_cases hi : i < 4
    · have hc := (hblk wr).out i hi hb
      have hx := HL.out i
      generalize hxx : l.getD i 0 = x at hc hx
      have HX := Lib.hid hxx
      clear hxx
      have hi0 : (0 : Int) <= (i : Int) := by omega
      have hi1 : (i : Int) < 4 := by omega
      cases hiq : ((i : Int) == (q : Int))
      · have hgap : ∀ j, f <= j -> j < 64 * i + 0 -> hasN l j = false := HG.out
        have HI : Hid (q < i) := by
          show q < i
          rcases Nat.lt_or_eq_of_le hqk with h | h
          · exact h
          · subst h; simp at hiq
        cases hx0 : ((x : Int) != 0)
        · have hxz : x = 0 := by simp at hx0; omega
          have HN : Hid (∀ j, f <= j -> j < 64 * (i + 1) -> hasN l j = false) := gap_word HX.out 0 hgap (by simp [hxz])
          clear hxz hgap
          go_wp2
          go_roundw
          case rel => exact ⟨i + 1, by omega, by omega, by go_num, HN, hbw, hb⟩
          case measure => simp [intOf]; omega
        · have hxz : x ≠ 0 := by simp at hx0; omega
          have HN : Hid (FirstIs l f ((64 * i + Lib.ctz 64 x : Nat) : Int)) := by
            have := first_word hi HX.out hx 0 (by omega) (by have := HI.out; have := HQ.out; omega) hgap (by simpa using hxz)
            rw [show x / 2 ^ 0 * 2 ^ 0 = x from by simp] at this
            exact this
          have HC : Hid (Lib.ctz 64 x < 64) := (ctz_is x hxz hx).2.1
          clear hgap
          go_wp2_with fail
          refine (tz_any x hx hxz _ (HT.out.below hbw hpos)).mono ?_
          rintro e w' ⟨rfl, rfl⟩
          have hc64 := HC.out
          generalize Lib.ctz 64 x = c at HN hc64 ⊢
          go_wp2
          go_ret
          exact ⟨_, rfl, by have := HN.out; rw [show ((i : Int) * 64 + (c : Int)) = ((64 * i + c : Nat) : Int) from by omega]; exact this, hbw⟩
      · have hiq' : i = q := by simp at hiq; omega
        subst hiq'
        obtain ⟨k, hk⟩ : ∃ k : Nat, k = f % 64 := ⟨_, rfl⟩
        have hfq := HQ.out
        have hand : bits .and .i64 (f : Int) 63 = (k : Int) := by rw [and63 f (by omega), hk]
        have hk64 : k < 64 := by omega
        have hk0 : (0 : Int) <= (k : Int) := by omega
        have HF : Hid (f = 64 * i + k) := by show f = 64 * i + k; omega
        clear hk hfq
        have hcut : IntKind.u64.wrap ((x : Int) / 2 ^ k * 2 ^ k) = ((x / 2 ^ k * 2 ^ k : Nat) : Int) := by
          have hle : x / 2 ^ k * 2 ^ k <= x := Nat.div_mul_le_self _ _
          rw [show (x : Int) / 2 ^ k * 2 ^ k = ((x / 2 ^ k * 2 ^ k : Nat) : Int) from by simp, IntKind.wrap_u64]
          omega
        have hle : x / 2 ^ k * 2 ^ k <= x := Nat.div_mul_le_self _ _
        have hgap : ∀ j, f <= j -> j < 64 * i + k -> hasN l j = false := fun j h1 h2 => by have := HF.out; omega
        obtain ⟨y, hy⟩ : ∃ y, x / 2 ^ k * 2 ^ k = y := ⟨_, rfl⟩
        rw [hy] at hcut hle
        cases hy0 : ((y : Int) != 0)
        · have hyz : y = 0 := by simp at hy0; omega
          have HN : Hid (∀ j, f <= j -> j < 64 * (i + 1) -> hasN l j = false) := gap_word HX.out k hgap (by rw [hy]; exact hyz)
          clear hyz hgap hy
          go_wp2
          go_roundw
          case rel => exact ⟨i + 1, by omega, by omega, by go_num, HN, hbw, hb⟩
          case measure => simp [intOf]; omega
        · have hyz : y ≠ 0 := by simp at hy0; omega
          have HN : Hid (FirstIs l f ((64 * i + Lib.ctz 64 y : Nat) : Int)) := by
            have := first_word hi HX.out hx k hk64 (by have := HF.out; omega) hgap (by rw [hy]; exact hyz)
            rw [hy] at this
            exact this
          have hy64 : y < 18446744073709551616 := by omega
          have HC : Hid (Lib.ctz 64 y < 64) := (ctz_is y hyz hy64).2.1
          clear hgap hy
          go_wp2_with fail
          refine (tz_any y hy64 hyz _ (HT.out.below hbw hpos)).mono ?_
          rintro e w' ⟨rfl, rfl⟩
          have hc64 := HC.out
          generalize Lib.ctz 64 y = c at HN hc64 ⊢
          go_wp2
          go_ret
          exact ⟨_, rfl, by have := HN.out; rw [show ((i : Int) * 64 + (c : Int)) = ((64 * i + c : Nat) : Int) from by omega]; exact this, hbw⟩
    · go_wp2
      go_ret
      exact ⟨_, rfl, .inr ⟨rfl, fun j h1 h2 => HG.out j h1 (by omega)⟩, hbw⟩
end Go.Proofs.YtndhbdbfjkmloaaDoor
