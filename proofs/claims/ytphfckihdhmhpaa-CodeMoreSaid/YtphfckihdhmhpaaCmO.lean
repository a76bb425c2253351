/- How programs that came in are opened. -/
import Derived.Test.YtphfckihdhmhpaaCmC
import Derived.Test.YtphfckihdhmhpaaGE
namespace Go.Proofs.Ytphfckihdhmhpaa
open Go.ChangeShapes Go.WideShapes Go.ChangeAt Go.RowKit

theorem in_fields : (Try.prog.underlying 89).map (fun u => match u with | .struct fs => fs.toList.map (fun f => (f.type, f.offset)) | _ => []) = some [(3, 0), (3, 1), (31, 2)] := by kernel_rfl
theorem in_cellsOf : Try.prog.cellsOf 89 = 6 := by kernel_rfl
def inC (x : In) : List Value := [.int .i64 x.op, .int .i64 x.n, .int .u64 (x.a : Int), .int .u64 (x.b : Int), .int .u64 (x.c : Int), .int .u64 (x.d : Int)]

set_option maxRecDepth 100000 in
theorem trod_in {H : Type} {enc : TypeId × Value → H} {W : World} {fuel : Nat} {cs : List Value} {x : DataW H × List MemPlace} (h : DataW.trod enc Try.prog W 0 (fun _ => true) true fuel 89 cs = some x) :
    ∃ y : In, cs = inC y ∧ Words y.set := by
  obtain ⟨u, hu, hf⟩ := Option.map_eq_some_iff.1 in_fields
  match u, hf with
  | .struct fs, hf =>
    obtain ⟨xs, n, rfl, rfl, hl, hlen, hget⟩ := DataW.trod_struct hu h
    rw [in_cellsOf] at hl
    have hf' : fs.toList.map (fun f => (f.type, f.offset)) = [(3, 0), (3, 1), (31, 2)] := hf
    have hfl : fs.toList.length = 3 := by have := congrArg List.length hf'; simpa using this
    have hfs : fs.size = 3 := by simpa using hfl
    have hxl : xs.length = 3 := by rw [hlen, hfs]
    match xs, hxl with
    | [y0, y1, y2], _ =>
    have at_ : ∀ (i : Nat) (t o : Nat), [(3, 0), (3, 1), (31, 2)][i]? = some (t, o) → DataW.trod enc Try.prog W 0 (fun _ => true) true n t ((cs.drop o).take (Try.prog.cellsOf t)) = [y0, y1, y2][i]? := by
      intro i t o hi
      rw [← hf', List.getElem?_map, Option.map_eq_some_iff] at hi
      obtain ⟨f, hf1, hf2⟩ := hi
      have hg := hget i f (by simpa using hf1)
      injection hf2 with e1 e2
      subst e1 e2
      exact hg
    have h0 := at_ 0 _ _ rfl
    have h1 := at_ 1 _ _ rfl
    have h2 := at_ 2 _ _ rfl
    rw [show Try.prog.cellsOf 3 = 1 from by kernel_rfl] at h0 h1
    rw [show Try.prog.cellsOf 31 = 4 from by kernel_rfl] at h2
    obtain ⟨r, e0, _, _⟩ := DataW.trod_int Try.underlying3 h0
    obtain ⟨f, e1, _, _⟩ := DataW.trod_int Try.underlying3 h1
    obtain ⟨a, b, c, d, e2, wa, wb, wc, wd⟩ := trod_set Try.underlying31 Try.underlying29 (by kernel_rfl) (by kernel_rfl) h2
    match cs, hl with
    | [c0, c1, c2, c3, c4, c5], _ =>
      simp at e0 e1 e2
      obtain ⟨rfl, rfl, rfl, rfl⟩ := e2
      subst e0 e1
      unfold U64 at wa wb wc wd
      obtain ⟨a, rfl⟩ := Int.eq_ofNat_of_zero_le wa.1
      obtain ⟨b, rfl⟩ := Int.eq_ofNat_of_zero_le wb.1
      obtain ⟨c, rfl⟩ := Int.eq_ofNat_of_zero_le wc.1
      obtain ⟨d, rfl⟩ := Int.eq_ofNat_of_zero_le wd.1
      refine ⟨⟨r, f, a, b, c, d⟩, rfl, fun i => ?_⟩
      show [a, b, c, d].getD i 0 < _
      match i with
      | 0 => show a < _; omega
      | 1 => show b < _; omega
      | 2 => show c < _; omega
      | 3 => show d < _; omega
      | i + 4 => simp

theorem inCells_range (f : Nat → In) (n : Nat) (j : Nat) (u : Value) (h : (inCells ((List.range n).map f))[j]? = some u) : j / 6 < n ∧ (inC (f (j / 6)))[j % 6]? = some u := by
  have hj := getElem?_lt h
  rw [inCells_len] at hj
  simp at hj
  have hd : j / 6 < n := by omega
  refine ⟨hd, ?_⟩
  have hm : j % 6 < 6 := Nat.mod_lt _ (by omega)
  have hg : ((List.range n).map f)[j / 6]? = some (f (j / 6)) := by simp [hd]
  obtain ⟨x, hx⟩ : ∃ x, (inC (f (j / 6)))[j % 6]? = some x := ⟨_, List.getElem?_eq_getElem (by simpa [inC] using hm)⟩
  have := inCells_get _ _ _ hg (j % 6) x hx
  rw [show j / 6 * 6 + j % 6 = j from by omega, h] at this
  rw [hx, this]

theorem in_row {α : Type} [Nonempty α] : ∀ (n : Nat) (p : Nat → α → Prop), (∀ i, i < n → ∃ v, p i v) → ∃ q : Nat → α, ∀ i, i < n → p i (q i) := fun n p h => by
  classical
  exact ⟨fun i => if hi : i < n then (h i hi).choose else Classical.choice inferInstance, fun i hi => by simp only [hi, dif_pos]; exact (h i hi).choose_spec⟩

theorem open_insts {H : Type} {enc : TypeId × Value → H} {W : World} {A : Option Addr} {n c : Nat} {d : DataW H} {p : List MemPlace} (h : DataW.Trod enc Try.prog W 0 (fun _ => true) true 86 (.slice A n c) d p) :
    ∃ l, Reads W W.heap.size 6 A n (inCells l) ∧ (∀ x ∈ l, Words x.set) ∧ n ≤ maxLen := by
  obtain ⟨fuel, hf⟩ := h
  rcases DataW.trod_slice Try.underlying86 hf with ⟨e3, _⟩ | ⟨ad, len, cap, elems, rest, m, e4, e3, e5, _, hlc, hcm, hel, hk, _⟩
  · simp [Value.cells] at e3
    obtain ⟨rfl, rfl, rfl⟩ := e3
    exact ⟨[], Reads.none_, fun x h => (by cases h), Nat.zero_le _⟩
  · simp [Value.cells] at e3
    obtain ⟨rfl, rfl, rfl⟩ := e3
    have hk' : ∀ i, i < n → ∃ v : In, Words v.set ∧ ad.block < W.heap.size ∧ (∀ j u, (inC v)[j]? = some u → W.cell? ((ad.add (i * 6)).add j) = some u) := by
      intro i hi
      have hg := hk i hi
      rw [List.getElem?_eq_getElem (by omega), in_cellsOf] at hg
      obtain ⟨ci, hc1, hc2⟩ := Option.bind_eq_some_iff.1 hg
      obtain ⟨v, rfl, hw⟩ := trod_in hc2
      obtain ⟨_, hc3, hc4⟩ := World.cells?_some hc1
      have hb := World.block_lt_of_cell? W _ ((hc4 0 (by omega)).trans (List.getElem?_eq_getElem (by simp [inC])))
      rw [add_block, add_block] at hb
      refine ⟨v, hw, hb, fun j u hu => ?_⟩
      rw [hc4 j (by have := getElem?_lt hu; simpa [inC] using this)]
      exact hu
    obtain ⟨q, hq⟩ := @in_row In ⟨⟨0, 0, 0, 0, 0, 0⟩⟩ _ _ hk'
    refine ⟨(List.range n).map q, ⟨by rw [inCells_len]; simp, fun hn => ⟨ad, rfl, (hq 0 hn).2.1, fun j u hu => ?_⟩⟩, fun x hx => ?_, Nat.le_trans hlc hcm⟩
    · obtain ⟨h1, h2⟩ := inCells_range q n j u hu
      have := (hq _ h1).2.2 _ _ h2
      rw [add_add'] at this
      rw [show j = j / 6 * 6 + j % 6 from by omega]
      exact this
    · obtain ⟨i, hi, rfl⟩ := List.mem_map.1 hx
      exact (hq i (List.mem_range.1 hi)).1
end Go.Proofs.Ytphfckihdhmhpaa
