/- list.Look. -/
import Derived.Test.YtefechceoeeonaaXB
import Derived.Test.YtefechceoeeonaaXD
import Derived.Laws.OwnMore
import Derived.Test.YtefechceoeeonaaRfS
namespace Go.Proofs.Ytefechceoeeonaa
open Go.RowKit

/-- may there be a list? -/
def LookOk (g : List Rl) (a : ByteArray) (n : Int) : Prop := (wellG g).2 = 0 ∧ AlphaOk a.data.toList ∧ ∃ k : Nat, n = k ∧ k ≤ 6 ∧ shN a.size (k + 1) ≤ 5000
theorem well_lt (g : List Rl) : 0 ≤ (wellG g).2 ∧ (wellG g).2 ≤ 9 := by
  have h := check_lt g
  unfold wellG
  split
  · simp only; omega
  · split
    · simp only; omega
    · split <;> simp only <;> omega
theorem below_of_drewn {w w' : World} (h : ∃ d, w' = w.drewN d) : Below w.heap.size w w' := by obtain ⟨d, rfl⟩ := h; exact below_drewN (Below.refl _ _) d
def LLookQ (g : List Rl) (a : ByteArray) (n : Int) (w : World) (e : Ending) (w' : World) : Prop := (∃ x, e = .returned (.int .i64 x) ∧ (x = 0 ↔ LookOk g a n) ∧ x ≠ 11) ∧ Below w.heap.size w w'

set_option maxRecDepth 100000 in
set_option maxHeartbeats 4000000 in
theorem llook_any {g : List Rl} {A : Option Addr} {cp : Nat} {row : Nat → List Value} {w : World} (h : GrIs w w.heap.size g A cp row) (a : ByteArray) (n : Int) (ha : a.size ≤ 140737488351232) (hn : I64 n) :
    Calls Try.prog 61 #[.agg #[.slice A g.length cp], .string a, .int .i64 n] w (LLookQ g a n w) := by
  have hck := fun W (hW : Below w.heap.size w W) => well_any ((h.on hW).more hW.size)
  have HCK := Lib.hid hck
  have hma := fun W => many3_any a n W ha hn
  have HM := Lib.hid hma
  have HL : Hid (∀ x, (x = 0 ↔ LookOk g a n) ∧ x ≠ 11 → ∀ w', Below w.heap.size w w' → LLookQ g a n w (.returned (.int .i64 x)) w') := fun x hx w' hb => ⟨⟨x, rfl, hx⟩, hb⟩
  have HR : Hid (0 ≤ (wellG g).2 ∧ (wellG g).2 ≤ 9) := well_lt g
  have HD : Hid (LookOk g a n ↔ (wellG g).2 = 0 ∧ AlphaOk a.data.toList ∧ ∃ k : Nat, n = k ∧ k ≤ 6 ∧ shN a.size (k + 1) ≤ 5000) := Iff.rfl
  clear hck h hma hn ha
  generalize LLookQ g a n w = Q at HL
  generalize LookOk g a n = L at HL HD
  unfold WellQ at HCK
  generalize wellG g = r at HCK HR HD
  obtain ⟨i, x⟩ := r
  by_cases hx : x = 0
  · subst hx
    go_enter Try.func61, Try.ntmps61
    go_wp2_with fail
    refine (HCK.out _ (by repeat (first | exact Below.refl _ _ | assumption | refine Below.drew ?_ | refine below_drewN ?_ _ | refine Below.alloc ?_ (by first | omega | (simp; omega) | simp) _ | refine Below.setCell ?_ (by first | omega | (simp; omega) | simp) _))).mono ?_
    rintro e w1 ⟨rfl, hb1⟩
    have hw1 : Below w.heap.size w w1 := ((Below.refl _ w).alloc (Nat.le_refl _) _).trans (hb1.mono (by simp))
    clear hb1
    go_wp2_with fail
    refine (HM.out _).mono ?_
    rintro e w2 ⟨⟨m, y, rfl, hy, h11⟩, hd⟩
    have hb2 : Below w1.heap.size w1 w2 := below_of_drewn hd
    have hw2 : Below w.heap.size w w2 := hw1.trans (hb2.mono hw1.size)
    clear hb2 hd
    rcases hy with ⟨rfl, hao, k, rfl, hk, rfl⟩ | ⟨hy0, rfl, hno⟩
    · by_cases hm : shN a.size (k + 1) ≤ 5000
      · have HQ := HL.out 0 ⟨by rw [HD.out]; exact ⟨fun _ => ⟨by trivial, hao, k, rfl, hk, hm⟩, fun _ => rfl⟩, by decide⟩ w2 hw2
        have hmi : ((5000 : Int) < ((shN a.size (k + 1) : Nat) : Int)) = False := by simp; omega
        generalize shN a.size (k + 1) = M at hmi
        have HQ' := Lib.hid HQ
        clear HQ hm hao h11
        go_wp2
        exact HQ'.out
      · have HQ := HL.out 2 ⟨by rw [HD.out]; exact ⟨fun h => by simp at h, fun ⟨_, _, k', h1, _, h2⟩ => absurd (by rw [show k = k' by omega]; exact h2) hm⟩, by decide⟩ w2 hw2
        have hmi : (5000 : Int) < ((shN a.size (k + 1) : Nat) : Int) := by omega
        generalize shN a.size (k + 1) = M at hmi
        have HQ' := Lib.hid HQ
        clear HQ hm hao h11
        go_wp2
        exact HQ'.out
    · have HQ := HL.out y ⟨by rw [HD.out]; exact ⟨fun h => absurd h hy0, fun ⟨_, h1, k', h2, h3, _⟩ => by have := hno h1; omega⟩, h11⟩ w2 hw2
      have HQ' := Lib.hid HQ
      have hyb : (y != 0) = true := by rw [bne_iff_ne]; exact hy0
      clear HQ hy0 h11 hno
      go_wp2
      exact HQ'.out
  · have HQ : Hid (∀ w', Below w.heap.size w w' → Q (.returned (.int .i64 x)) w') := HL.out x ⟨by rw [HD.out]; exact ⟨fun h => absurd h hx, fun ⟨h1, _⟩ => absurd h1 hx⟩, fun h => by have := HR.out; simp only at this; omega⟩
    have hxb : (x != 0) = true := by rw [bne_iff_ne]; exact hx
    clear hx
    go_enter Try.func61, Try.ntmps61
    go_wp2_with fail
    refine (HCK.out _ (by repeat (first | exact Below.refl _ _ | assumption | refine Below.drew ?_ | refine below_drewN ?_ _ | refine Below.alloc ?_ (by first | omega | (simp; omega) | simp) _ | refine Below.setCell ?_ (by first | omega | (simp; omega) | simp) _))).mono ?_
    rintro e w1 ⟨rfl, hb1⟩
    have hw1 : Below w.heap.size w w1 := ((Below.refl _ w).alloc (Nat.le_refl _) _).trans (hb1.mono (by simp))
    clear hb1
    go_wp2
    exact HQ.out _ hw1
end Go.Proofs.Ytefechceoeeonaa

/- list.List where there is no list to be made. -/
namespace Go.Proofs.Ytefechceoeeonaa
open Go.RowKit Go.Shelf

def curV (c : Cur) : Value := .agg #[.string c.1, .bool c.2]
/-- what list.List answers -/
def ListQ (g : List Rl) (a : ByteArray) (n : Int) (c : Cur) (b : Int) (w : World) (e : Ending) (w' : World) : Prop := Below w.heap.size w w' ∧
  ((¬ LookOk g a n ∧ ∃ x, x ≠ 0 ∧ x ≠ 11 ∧ e = .returned (.tuple #[.slice none 0 0, curV (⟨#[]⟩, false), .int .i64 x])) ∨
   (LookOk g a n ∧ ¬ (0 ≤ b ∧ b ≤ 1048576 ∧ CurOk a.data.toList n.toNat c) ∧ e = .returned (.tuple #[.slice none 0 0, curV (⟨#[]⟩, false), .int .i64 1])) ∨
   (LookOk g a n ∧ (0 ≤ b ∧ b ≤ 1048576 ∧ CurOk a.data.toList n.toNat c) ∧ ∃ V cp l c', listL (accG g) a.data.toList n.toNat c b.toNat = (l, c') ∧ e = .returned (.tuple #[.slice V l.length cp, curV c', .int .i64 0]) ∧
      w'.ownsRow w.heap.size 9 1 (.slice V l.length cp) l.length (l.map Value.string)))

end Go.Proofs.Ytefechceoeeonaa

/- list.List where it lists. -/
namespace Go.Proofs.Ytefechceoeeonaa
open Go.RowKit Go.Shelf

attribute [local go_sem] Oper.semAt_some

theorem blk_keep {W W' : World} {row : Option Nat} {g : Nat} {t : TypeId} {cs : Array Value} (h : Blk W g t cs) (hg : W.grownBy W' row) (hr : ∀ r, row = some r → ∃ o : Obj, W.heap[r]? = some o ∧ o.isCells = false) : Blk W' g t cs :=
  h.grown hg fun e => by
    obtain ⟨o, ho, hc⟩ := hr g e.symm
    rw [show W.heap[g]? = _ from h] at ho
    cases ho
    cases hc
theorem own_keep {W W' : World} {row : Option Nat} {base : Nat} {e : TypeId} {size : Nat} {v : Value} {k : Nat} {xs : List Value} (h : W.ownsRow base e size v k xs) (hg : W.grownBy W' row) (hr : ∀ r, row = some r → ∃ o : Obj, W.heap[r]? = some o ∧ o.isCells = false) : W'.ownsRow base e size v k xs := by
  refine h.kept hg ?_
  rcases h.2 with ⟨rfl, _⟩ | ⟨g, cap, cur, rfl, _, hgb, _⟩
  · exact .inl rfl
  · refine .inr fun e' => ?_
    obtain ⟨o, ho, hc⟩ := hr g e'.symm
    rw [hgb] at ho
    cases ho
    cases hc
theorem below_keep {B n₀ : Nat} {w X Y : World} {row : Option Nat} (h : Below n₀ w X) (hn : n₀ ≤ w.heap.size) (hB : n₀ ≤ B) (hg : X.grownBy Y row) (hr : ∀ r, row = some r → B ≤ r ∧ ∃ o : Obj, X.heap[r]? = some o ∧ o.isCells = false) : Below n₀ w Y :=
  h.grown hg (Nat.le_trans hn h.size) fun k e => Nat.le_trans hB (hr k e).1
/-- what a part of a round keeps: the blocks that are no cells, and the iterator's boxes -/
structure KeepL (B bt : Nat) (W W' : World) : Prop where
  from_ : KeepsFrom B W W'
  t : KeepT bt W W'
theorem KeepL.refl (B bt : Nat) (W : World) : KeepL B bt W W := ⟨KeepsFrom.refl _ _, KeepT.refl _ _⟩
theorem KeepL.trans {B bt : Nat} {X Y Z : World} (h : KeepL B bt X Y) (h' : KeepL B bt Y Z) : KeepL B bt X Z := ⟨h.from_.trans h'.from_, h.t.trans h'.t⟩
theorem KeepL.below {B bt : Nat} {W W' : World} (h : Below W.heap.size W W') (hb : bt + 3 ≤ W.heap.size) : KeepL B bt W W' := ⟨KeepsFrom.of_grownBy (grown_of_below h none) (fun j e => by cases e), KeepT.below h hb⟩
theorem KeepL.set {B bt k : Nat} (W : World) (hk : k < bt) (hB : bt ≤ B) (j : Nat) (u : Value) : KeepL B bt W (W.setCell ⟨k, j, none⟩ u) :=
  ⟨KeepsFrom.of_grownBy (row := some k) ⟨rfl, rfl, rfl, by simp [World.setCell], fun q _ hne => Below.heap_setCell W ⟨k, j, none⟩ u q (by rintro rfl; exact hne rfl)⟩ (fun q e => by injection e with e; omega),
   ⟨by simp [World.setCell], fun q h1 h2 => Below.heap_setCell W ⟨k, j, none⟩ u q (by simp; omega)⟩⟩
theorem KeepL.app {B bt : Nat} {W W' : World} {base : Nat} {e : TypeId} {size : Nat} {v : Value} {n : Nat} {xs : List Value} (ho : W.ownsRow base e size v n xs) (hg : W.grownBy W' v.ownBlock) (hb : bt + 3 ≤ base) (hw : bt + 3 ≤ W.heap.size) : KeepL B bt W W' := by
  refine ⟨⟨hg.size, fun k o _ hk hc => (hg.block k (Array.getElem?_eq_some_iff.1 hk).1 fun e' => ?_).trans hk⟩, ⟨hg.size, fun k _ h2 => hg.block k (by omega) (own_ne ho (by omega))⟩⟩
  rcases ho.2 with ⟨rfl, _⟩ | ⟨g, cap, cur, rfl, _, hgb, _⟩
  · cases e'
  · have e2 : k = g := by injection e'
    subst e2
    rw [hgb] at hk
    cases hk
    cases hc
theorem own_setfar {W : World} {base : Nat} {e : TypeId} {size : Nat} {v : Value} {n : Nat} {xs : List Value} (h : W.ownsRow base e size v n xs) {k : Nat} (hk : k < base) (j : Nat) (u : Value) : (W.setCell ⟨k, j, none⟩ u).ownsRow base e size v n xs :=
  own_far h ⟨rfl, rfl, rfl, by simp [World.setCell], fun q _ hne => Below.heap_setCell W ⟨k, j, none⟩ u q (by rintro rfl; exact hne rfl)⟩ hk
end Go.Proofs.Ytefechceoeeonaa

/- list.List where it lists: the walk. -/
namespace Go.Proofs.Ytefechceoeeonaa
open Go.RowKit Go.Shelf

attribute [local go_sem] Oper.semAt_some

theorem str_info : (Try.prog.info? 9).map (fun i => (i.zero, i.size, i.bytes)) = some (some (.string ByteArray.empty), 1, 16) := by kernel_rfl

theorem callsIn_round {F : Fence} {n l : Nat} {P : Program} {f : FuncId} {args : Array Value} {w : World} {R : Ending → World → Prop} (h : CallsIn F n P f args w R) : CallsIn (F.inRound l) n P f args w R := h
theorem cell_put {W : World} {D k i : Nat} {o : Obj} {v : Option Value} (hne : k ≠ D) (h : W.cell? ⟨k, i, none⟩ = v) : (W.putObj D o).cell? ⟨k, i, none⟩ = v := (World.cell?_of_block (World.putObj_heap_other hne)).trans h
theorem filter_snoc {acc : ByteArray → Bool} {pre : List ByteArray} {x : ByteArray} (h : acc x = true) : (pre ++ [x]).filter acc = pre.filter acc ++ [x] := by simp [h]
theorem filter_skip {acc : ByteArray → Bool} {pre : List ByteArray} {x : ByteArray} (h : acc x = false) : (pre ++ [x]).filter acc = pre.filter acc := by simp [h]

end Go.Proofs.Ytefechceoeeonaa

/- Plain facts on small lists: what a small grammar accepts. -/
namespace Go.Proofs.Ytefechceoeeonaa
open Go.RowKit

theorem accG_is {g : List Rl} {s : ByteArray} {r : Rl} {n : Nat} {o : Option Nat} (hl : lookG g s = 0) (hr : g[0]? = some r) (he : ev g s.data.toList n r.2 0 = some o) : accG g s = (o.isSome && decide (o.getD 0 = s.size)) := by
  unfold accG
  rw [hl, outG_is hr ⟨n, he⟩]
  simp
theorem textsL_of {a : List UInt8} {n : Nat} {l : List ByteArray} (hl : l.length = shN a.length (n + 1)) (h : ∀ i u, l[i]? = some u → OverOk a u.data.toList ∧ rank a u.data.toList = i) : textsL a [] n = l := by
  apply List.ext_getElem?
  intro i
  by_cases hi : i < shN a.length (n + 1)
  · obtain ⟨u, hu⟩ : ∃ u, l[i]? = some u := ⟨_, List.getElem?_eq_getElem (by omega)⟩
    obtain ⟨h1, h2⟩ := h i u hu
    rw [textsL_get (by rw [rank_zero]; omega), hu, rank_zero, Nat.zero_add, ← h2, textOf_is h1]
  · rw [List.getElem?_eq_none (by rw [textsL_len, rank_zero]; omega), List.getElem?_eq_none (by omega)]
/-- "xy" -/
def xyA : ByteArray := ⟨#[120, 121]⟩
theorem xy_ok : AlphaOk [120, 121] := by
  refine ⟨by decide, by decide, fun i h1 h2 => ?_⟩
  obtain rfl : i = 1 := by simp at h2; omega
  decide
theorem x_ok : AlphaOk [120] := ⟨by decide, by decide, fun i h1 h2 => by simp at h2; omega⟩
def overB (a s : List UInt8) : Bool := decide (s.length ≤ 6) && s.all fun c => a.contains c
theorem over_of {a s : List UInt8} (ha : AlphaOk a) (h : overB a s = true) : OverOk a s := by
  unfold overB at h
  simp only [Bool.and_eq_true, decide_eq_true_eq, List.all_eq_true] at h
  exact ⟨ha, h.1, fun c hc => by have := h.2 c hc; simpa using this⟩
theorem texts_small {a : List UInt8} (ha : AlphaOk a) {n : Nat} {l : List ByteArray} (h : (decide (l.length = shN a.length (n + 1)) && (List.range l.length).all fun i => overB a (l.getD i ⟨#[]⟩).data.toList && decide (rank a (l.getD i ⟨#[]⟩).data.toList = i)) = true) : textsL a [] n = l := by
  simp only [Bool.and_eq_true, decide_eq_true_eq, List.all_eq_true, List.mem_range] at h
  refine textsL_of h.1 fun i u hu => ?_
  have hi := h.2 i (getElem?_lt hu)
  rw [List.getD_eq_getElem?_getD, hu] at hi
  exact ⟨over_of ha hi.1, hi.2⟩
def starG : List Rl := [(nameA, ofN 7 [litE ⟨#[120]⟩])]
def xG : List Rl := [(nameA, litE ⟨#[120]⟩)]
def yG : List Rl := [(nameA, litE ⟨#[121]⟩)]
theorem star_well : (wellG starG).2 = 0 := by decide +kernel
theorem x_well : (wellG xG).2 = 0 := by decide +kernel
theorem y_well : (wellG yG).2 = 0 := by decide +kernel
theorem look_of {g : List Rl} {s : ByteArray} (h : (wellG g).2 = 0) (hs : s.size ≤ 60) : lookG g s = 0 := by
  unfold lookG
  rw [if_neg (by rw [h]; simp), if_neg (by omega)]
theorem texts_xy2 : textsL [120, 121] [] 2 = [⟨#[]⟩, ⟨#[120]⟩, ⟨#[121]⟩, ⟨#[120, 120]⟩, ⟨#[120, 121]⟩, ⟨#[121, 120]⟩, ⟨#[121, 121]⟩] := texts_small xy_ok (by decide +kernel)
theorem texts_xy1 : textsL [120, 121] [] 1 = [⟨#[]⟩, ⟨#[120]⟩, ⟨#[121]⟩] := texts_small xy_ok (by decide +kernel)
theorem texts_x1 : textsL [120] [] 1 = [⟨#[]⟩, ⟨#[120]⟩] := texts_small x_ok (by decide +kernel)
theorem texts_x0 : textsL [120] [] 0 = [⟨#[]⟩] := texts_small x_ok (by decide +kernel)
theorem star_acc (s : ByteArray) (hs : s.size ≤ 60) {o : Option Nat} (he : ev starG s.data.toList 20 (ofN 7 [litE ⟨#[120]⟩]) 0 = some o) : accG starG s = (o.isSome && decide (o.getD 0 = s.size)) := accG_is (look_of star_well hs) rfl he
theorem x_acc (s : ByteArray) (hs : s.size ≤ 60) {o : Option Nat} (he : ev xG s.data.toList 20 (litE ⟨#[120]⟩) 0 = some o) : accG xG s = (o.isSome && decide (o.getD 0 = s.size)) := accG_is (look_of x_well hs) rfl he
theorem y_acc (s : ByteArray) (hs : s.size ≤ 60) {o : Option Nat} (he : ev yG s.data.toList 20 (litE ⟨#[121]⟩) 0 = some o) : accG yG s = (o.isSome && decide (o.getD 0 = s.size)) := accG_is (look_of y_well hs) rfl he
theorem star_all : allL (accG starG) [120, 121] 2 = [⟨#[]⟩, ⟨#[120]⟩, ⟨#[120, 120]⟩] := by
  have h0 : accG starG ⟨#[]⟩ = true := star_acc _ (by decide) (o := some 0) (by decide +kernel)
  have h1 : accG starG ⟨#[120]⟩ = true := star_acc _ (by decide) (o := some 1) (by decide +kernel)
  have h2 : accG starG ⟨#[121]⟩ = false := star_acc _ (by decide) (o := some 0) (by decide +kernel)
  have h3 : accG starG ⟨#[120, 120]⟩ = true := star_acc _ (by decide) (o := some 2) (by decide +kernel)
  have h4 : accG starG ⟨#[120, 121]⟩ = false := star_acc _ (by decide) (o := some 1) (by decide +kernel)
  have h5 : accG starG ⟨#[121, 120]⟩ = false := star_acc _ (by decide) (o := some 0) (by decide +kernel)
  have h6 : accG starG ⟨#[121, 121]⟩ = false := star_acc _ (by decide) (o := some 0) (by decide +kernel)
  unfold allL
  rw [texts_xy2]
  simp [h0, h1, h2, h3, h4, h5, h6]
theorem star_lookok : LookOk starG ⟨#[120, 121]⟩ 2 := ⟨star_well, xy_ok, 2, rfl, by decide, by decide +kernel⟩
theorem wf_lit (t : ByteArray) : WfE (litE t) := .mk _ _ _ _ _ _ _ (by unfold I64; omega) (by unfold U64; omega) (by unfold U64; omega) (by unfold U64; omega) (by unfold U64; omega) (fun e h => by cases h)
theorem wf_of {k : Int} (hk : I64 k) {ks : List Ex} (h : ∀ e ∈ ks, WfE e) : WfE (ofN k ks) := .mk _ _ _ _ _ _ _ hk (by unfold U64; omega) (by unfold U64; omega) (by unfold U64; omega) (by unfold U64; omega) h
theorem wf_g1 {e : Ex} (h : WfE e) : ∀ r ∈ [(nameA, e)], WfE r.2 := fun r hr => by simp only [List.mem_singleton] at hr; subst hr; exact h
end Go.Proofs.Ytefechceoeeonaa
