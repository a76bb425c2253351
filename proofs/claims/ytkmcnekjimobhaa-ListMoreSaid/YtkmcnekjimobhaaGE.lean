/- How the arguments of a law are opened: what a reading of a slice of ints gives the walk. -/
import Derived.Test.YtkmcnekjimobhaaGA
import Derived.ProofKit
import Derived.OpenShut
import Derived.ShutString
import Derived.ChangeOld
import Derived.SizedLaws
import Derived.Test.YtkmcnekjimobhaaGB
import Derived.Test.YtkmcnekjimobhaaGD
namespace Go.Proofs.Ytkmcnekjimobhaa
open Go.ChangeShapes Go.WideShapes Go.ChangeAt Go.RowKit

theorem I64_of_wf {z : Int} (h : (Lit.int .i64 z).wf = true) : I64 z := by
  simpa [I64, Lit.wf, IntKind.min, IntKind.max, IntKind.signed, IntKind.bits] using h

/-- what is told of a slice of ints that came in: its elements, and all its cells -/
def IntRow (W : World) (a : Option Addr) (n c : Nat) (zs all : List Int) : Prop :=
  Reads W W.heap.size 1 a n (ints zs) ∧ n ≤ c ∧ Small c ∧ (∀ z ∈ zs, I64 z) ∧ zs = all.take n ∧ all.length = c ∧ (a = none → c = 0)

theorem open_introw {H : Type} {enc : TypeId × Value → H} {P : Program} {W : World} {t e : TypeId} {a : Option Addr} {n c : Nat} {d : DataW H} {p : List MemPlace}
    (ht : P.underlying t = some (.slice e)) (he : P.underlying e = some (.int .i64)) (hc : P.cellsOf e = 1) (hby : P.bytesOf e = 8)
    (h : DataW.Trod enc P W 0 (fun _ => true) true t (.slice a n c) d p)
    (hsz : ∀ elems spare, d = .slice elems spare → (elems.length + spare.length) * P.bytesOf e ≤ reachBytes) :
    ∃ zs all, IntRow W a n c zs all := by
  obtain ⟨fuel, hf⟩ := h
  rcases open_ints ht he hc hf with ⟨hcs, _⟩ | ⟨x, l, c', zs, hcs, _, hl, hm, hz, hx, hcell, hwz⟩
  · simp [Value.cells] at hcs
    obtain ⟨rfl, rfl, rfl⟩ := hcs
    exact ⟨[], [], Reads.none_, Nat.le_refl _, by simp [Small], by simp, rfl, rfl, fun _ => rfl⟩
  · simp [Value.cells] at hcs
    obtain ⟨rfl, rfl, rfl⟩ := hcs
    have hz' : zs.length = c := by simpa using hz
    simp only [Prod.mk.injEq] at hx
    have hs := hsz _ _ hx.1
    have hbd : c ≤ 17592186044415 := by
      rw [hby] at hs
      simp only [lits, List.length_map, List.length_take, List.length_drop, reachBytes] at hs
      omega
    refine ⟨zs.take n, zs, ⟨by simp [ints]; omega, fun hn => ⟨x, rfl, ?_, ?_⟩⟩, hl, hbd, fun z hz => I64_of_wf (hwz z (List.mem_of_mem_take hz)), rfl, hz', fun h => by cases h⟩
    · have := World.block_lt_of_cell? W _ (hcell 0 (by omega))
      rwa [add_block] at this
    · intro j u hu
      simp only [ints, List.getElem?_map, List.getElem?_take, Option.map_eq_some_iff] at hu
      obtain ⟨z, hz, rfl⟩ := hu
      split at hz
      · have := hcell j (getElem?_lt hz)
        rw [this, List.getD_eq_getElem?_getD, hz]
        rfl
      · cases hz
end Go.Proofs.Ytkmcnekjimobhaa

/- How a set that came in is opened: four words of 64 bits. -/
namespace Go.Proofs.Ytkmcnekjimobhaa
open Go.ChangeShapes Go.WideShapes Go.ChangeAt Go.RowKit

theorem U64_of_wf {z : Int} (h : (Lit.int .u64 z).wf = true) : U64 z := by
  have : 0 ≤ z ∧ z ≤ 18446744073709551615 := by simpa [Lit.wf, IntKind.min, IntKind.max, IntKind.signed, IntKind.bits] using h
  exact ⟨this.1, by omega⟩

/-- four cells that read as a set -/
theorem trod_set {H : Type} {enc : TypeId × Value → H} {P : Program} {W : World} {base : Nat} {sp : Nat → Bool} {held : Bool} {t e : TypeId} {fuel : Nat} {cs : List Value} {x : DataW H × List MemPlace}
    (ht : P.underlying t = some (.array 4 e)) (he : P.underlying e = some (.int .u64)) (hc : P.cellsOf e = 1) (hct : P.cellsOf t = 4) (h : DataW.trod enc P W base sp held fuel t cs = some x) :
    ∃ a b c d, cs = [.int .u64 a, .int .u64 b, .int .u64 c, .int .u64 d] ∧ U64 a ∧ U64 b ∧ U64 c ∧ U64 d := by
  obtain ⟨xs, m, _, _, hl, hx, hi⟩ := DataW.trod_array ht h
  rw [hct] at hl
  match cs, hl with
  | [v0, v1, v2, v3], _ =>
    match xs, hx with
    | [y0, y1, y2, y3], _ =>
      have g0 := hi 0 (by omega)
      have g1 := hi 1 (by omega)
      have g2 := hi 2 (by omega)
      have g3 := hi 3 (by omega)
      rw [hc] at g0 g1 g2 g3
      obtain ⟨a, ha, _, wa⟩ := DataW.trod_int he g0
      obtain ⟨b, hb, _, wb⟩ := DataW.trod_int he g1
      obtain ⟨c, hc, _, wc⟩ := DataW.trod_int he g2
      obtain ⟨d, hd, _, wd⟩ := DataW.trod_int he g3
      simp at ha hb hc hd
      subst ha hb hc hd
      exact ⟨a, b, c, d, rfl, U64_of_wf wa, U64_of_wf wb, U64_of_wf wc, U64_of_wf wd⟩

theorem agg_of_cells {v : Value} {cs : List Value} (h : v.cells.toList = cs) (hl : cs.length ≠ 1) : v = .agg cs.toArray := by
  cases v <;> simp [Value.cells] at h
  case agg c => rw [← h]
  all_goals (subst h; simp at hl)

theorem open_set {H : Type} {enc : TypeId × Value → H} {P : Program} {W : World} {base : Nat} {sp : Nat → Bool} {held : Bool} {t e : TypeId} {v : Value} {d : DataW H} {p : List MemPlace}
    (ht : P.underlying t = some (.array 4 e)) (he : P.underlying e = some (.int .u64)) (hc : P.cellsOf e = 1) (hct : P.cellsOf t = 4) (h : DataW.Trod enc P W base sp held t v d p) :
    ∃ a b c d, v = .agg #[.int .u64 a, .int .u64 b, .int .u64 c, .int .u64 d] ∧ U64 a ∧ U64 b ∧ U64 c ∧ U64 d := by
  obtain ⟨fuel, hf⟩ := h
  obtain ⟨a, b, c, d, hcs, h1⟩ := trod_set ht he hc hct hf
  exact ⟨a, b, c, d, agg_of_cells hcs (by simp), h1⟩
end Go.Proofs.Ytkmcnekjimobhaa

/- How an expression that came in is opened. -/
namespace Go.Proofs.Ytkmcnekjimobhaa
open Go.ChangeShapes Go.WideShapes Go.ChangeAt Go.RowKit

theorem ex_fields : (Try.prog.underlying 37).map (fun u => match u with | .struct fs => fs.toList.map (fun f => (f.type, f.offset)) | _ => []) = some [(3, 0), (34, 1), (9, 5), (35, 6)] := by kernel_rfl
theorem ex_cells : Try.prog.cellsOf 37 = 7 := by kernel_rfl

theorem seven_of {cs : List Value} (h : cs.length = 7) : ∃ c0 c1 c2 c3 c4 c5 c6, cs = [c0, c1, c2, c3, c4, c5, c6] := by
  match cs, h with
  | [c0, c1, c2, c3, c4, c5, c6], _ => exact ⟨c0, c1, c2, c3, c4, c5, c6, rfl⟩
theorem eight_of {cs : List Value} (h : cs.length = 8) : ∃ c0 c1 c2 c3 c4 c5 c6 c7, cs = [c0, c1, c2, c3, c4, c5, c6, c7] := by
  match cs, h with
  | [c0, c1, c2, c3, c4, c5, c6, c7], _ => exact ⟨c0, c1, c2, c3, c4, c5, c6, c7, rfl⟩
theorem row_of {α : Type} [Inhabited α] {n : Nat} {p : Nat → α → Prop} (h : ∀ i, i < n → ∃ x, p i x) : ∃ f : Nat → α, ∀ i, i < n → p i (f i) := by
  have h' : ∀ i, ∃ x, i < n → p i x := fun i => by
    by_cases hi : i < n
    · obtain ⟨x, hx⟩ := h i hi
      exact ⟨x, fun _ => hx⟩
    · exact ⟨default, fun h => absurd h hi⟩
  exact ⟨fun i => (h' i).choose, fun i hi => (h' i).choose_spec hi⟩

set_option maxRecDepth 100000 in
theorem trod_ex {H : Type} {enc : TypeId × Value → H} {W : World} : ∀ (fuel : Nat) {cs : List Value} {x : DataW H × List MemPlace},
    DataW.trod enc Try.prog W 0 (fun _ => true) true fuel 37 cs = some x → ∃ e, ExIs W W.heap.size e cs := by
  intro fuel
  induction fuel using Nat.strongRecOn with
  | _ fuel ih =>
    intro cs x h
    obtain ⟨u, hu, hf⟩ := Option.map_eq_some_iff.1 ex_fields
    match u, hf with
    | .struct fs, hf =>
      obtain ⟨xs, n, rfl, _, hl, hlen, hget⟩ := DataW.trod_struct hu h
      rw [ex_cells] at hl
      have hf' : fs.toList.map (fun f => (f.type, f.offset)) = [(3, 0), (34, 1), (9, 5), (35, 6)] := hf
      have hfl : fs.toList.length = 4 := by have := congrArg List.length hf'; simpa using this
      have at_ : ∀ (i : Nat) (t o : Nat), [(3, 0), (34, 1), (9, 5), (35, 6)][i]? = some (t, o) → ∃ y, DataW.trod enc Try.prog W 0 (fun _ => true) true n t ((cs.drop o).take (Try.prog.cellsOf t)) = some y := by
        intro i t o hi
        rw [← hf', List.getElem?_map, Option.map_eq_some_iff] at hi
        obtain ⟨f, hf1, hf2⟩ := hi
        have hg := hget i f (by simpa using hf1)
        injection hf2 with e1 e2
        subst e1 e2
        have : i < xs.length := by
          have h3 := getElem?_lt hf1
          rw [hfl] at h3
          have h4 : fs.size = 4 := by simpa using hfl
          rw [hlen, h4]
          exact h3
        rw [List.getElem?_eq_getElem this] at hg
        exact ⟨_, hg⟩
      obtain ⟨y0, h0⟩ := at_ 0 _ _ rfl
      obtain ⟨y1, h1⟩ := at_ 1 _ _ rfl
      obtain ⟨y2, h2⟩ := at_ 2 _ _ rfl
      obtain ⟨y3, h3⟩ := at_ 3 _ _ rfl
      rw [show Try.prog.cellsOf 3 = 1 from by kernel_rfl] at h0
      rw [show Try.prog.cellsOf 34 = 4 from by kernel_rfl] at h1
      rw [show Try.prog.cellsOf 9 = 1 from by kernel_rfl] at h2
      rw [show Try.prog.cellsOf 35 = 1 from by kernel_rfl] at h3
      obtain ⟨k, e0, _, wk⟩ := DataW.trod_int Try.underlying3 h0
      obtain ⟨a, b, c, d, e1, ws⟩ := trod_set Try.underlying34 Try.underlying32 (by kernel_rfl) (by kernel_rfl) h1
      obtain ⟨t, e2, _, wt⟩ := DataW.trod_string Try.underlying9 h2
      obtain ⟨c0, c1, c2, c3, c4, c5, c6, rfl⟩ := seven_of hl
      simp at e0 e1 e2
      subst e0 e2
      obtain ⟨rfl, rfl, rfl, rfl⟩ := e1
      rcases DataW.trod_slice Try.underlying35 h3 with ⟨e3, _⟩ | ⟨ad, len, cap, elems, rest, m, e4, e3, _, _, hlc, hcm, hel, hk, _⟩
      · simp at e3
        subst e3
        exact ⟨.mk k a b c d t [], .mk k a b c d t [] none 0 (fun _ => []) wt (by simp) (by unfold maxLen; omega) (fun _ => rfl) (fun h => by simp at h) (fun i e h => by simp at h) (fun i e ad h => by simp at h)⟩
      · simp at e3
        subst e3
        have hk' : ∀ i, i < len → ∃ r : Ex × List Value, ExIs W W.heap.size r.1 r.2 ∧ ad.block < W.heap.size ∧ ∀ j u, r.2[j]? = some u → W.cell? ((ad.add (i * 7)).add j) = some u := by
          intro i hi
          have hg := hk i hi
          rw [List.getElem?_eq_getElem (by omega), ex_cells] at hg
          obtain ⟨ci, hc1, hc2⟩ := Option.bind_eq_some_iff.1 hg
          obtain ⟨e, he⟩ := ih m (by omega) hc2
          obtain ⟨_, hc3, hc4⟩ := World.cells?_some hc1
          have hb := World.block_lt_of_cell? W _ ((hc4 0 (by omega)).trans (List.getElem?_eq_getElem (by omega)))
          rw [add_block, add_block] at hb
          refine ⟨(e, ci), he, hb, fun j u hu => ?_⟩
          rw [hc4 j (by have := getElem?_lt hu; simp at this; omega)]
          exact hu
        obtain ⟨f, hf⟩ := @row_of (Ex × List Value) ⟨(.mk 0 0 0 0 0 ⟨#[]⟩ [], [])⟩ _ _ hk'
        have hlen' : ((List.range len).map fun i => (f i).1).length = len := by simp
        have hget : ∀ i e, ((List.range len).map fun i => (f i).1)[i]? = some e → i < len ∧ e = (f i).1 := by
          intro i e he
          have hi := getElem?_lt he
          rw [hlen'] at hi
          simp [hi] at he
          exact ⟨hi, he.symm⟩
        have hx := ExIs.mk (w := W) (B := W.heap.size) k a b c d t ((List.range len).map fun i => (f i).1) (some ad) cap (fun i => (f i).2) wt (by rw [hlen']; exact hlc) hcm (fun h => by cases h)
          (fun h => ⟨ad, rfl, (hf 0 (by rw [hlen'] at h; exact h)).2.1⟩) (fun i e he => by obtain ⟨hi, rfl⟩ := hget i e he; exact (hf i hi).1)
          (fun i e ad' he hA j u hu => by obtain ⟨hi, rfl⟩ := hget i e he; injection hA with hA; subst hA; exact (hf i hi).2.2 j u hu)
        rw [hlen'] at hx
        exact ⟨_, hx⟩
theorem open_ex {H : Type} {enc : TypeId × Value → H} {W : World} {v : Value} {d : DataW H} {p : List MemPlace} (h : DataW.Trod enc Try.prog W 0 (fun _ => true) true 37 v d p) :
    ∃ e cs, v = .agg cs.toArray ∧ ExIs W W.heap.size e cs := by
  obtain ⟨fuel, hf⟩ := h
  obtain ⟨e, he⟩ := trod_ex fuel hf
  refine ⟨e, _, agg_of_cells rfl ?_, he⟩
  generalize v.cells.toList = cs at he
  cases he
  simp
end Go.Proofs.Ytkmcnekjimobhaa
