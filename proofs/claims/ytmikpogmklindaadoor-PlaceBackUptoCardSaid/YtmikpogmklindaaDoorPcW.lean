/- place.Where. -/
import Derived.Test.YtmikpogmklindaaDoorPcI
import Derived.Test.YtmikpogmklindaaDoorPcU
import Derived.Test.YtmikpogmklindaaDoorPcS
import Derived.Test.YtmikpogmklindaaDoorShC9d
namespace Go.Proofs.YtmikpogmklindaaDoor
open Go.RowKit

theorem upto_slice (s : ByteArray) (i : Nat) (h : i ≤ s.size) (w : World) :
    (Instr.slice 9 (.string s) none (some (.int .i64 (i : Int))) none).run Tryd.prog w = .ok (.string (s.extract 0 i)) w := by
  have hu := Tryd.underlying9
  simp [Instr.slice, run_underlying hu, Instr.sliceBounds, go_sem]
  omega
theorem mid_slice (s : ByteArray) (i j : Nat) (h : i ≤ j) (h' : j ≤ s.size) (w : World) :
    (Instr.slice 9 (.string s) (some (.int .i64 (i : Int))) (some (.int .i64 (j : Int))) none).run Tryd.prog w = .ok (.string (s.extract i j)) w := by
  have hu := Tryd.underlying9
  simp [Instr.slice, run_underlying hu, Instr.sliceBounds, go_sem]
  rw [if_pos h', if_pos h]
theorem ext_size (s : ByteArray) (i j : Nat) (h : i ≤ j) (h' : j ≤ s.size) : (s.extract i j).size = j - i := by
  simp
  omega
theorem ext_list (s : ByteArray) (i j : Nat) : (s.extract i j).data.toList = (s.data.toList.drop i).take (j - i) := by
  simp only [ByteArray.data_extract, Array.toList_extract, List.extract_eq_take_drop]
theorem frm_of {l : List UInt8} {a f : Nat} (ha : a ≤ l.length) (h : liB (l.take a) f) : IsFrm l a f := by
  have hl : (l.take a).length = a := by rw [List.length_take]; omega
  have h1 := h.le
  rw [hl] at h1
  refine ⟨h1, ?_, fun i i1 i2 => ?_⟩
  · rcases h.nl with h | h
    · exact .inl h
    · by_cases h0 : f = 0
      · exact .inl h0
      · rw [List.getElem?_take, if_pos (by omega)] at h
        exact .inr h
  · have := h.no i i1 (by rw [hl]; exact i2)
    rw [List.getElem?_take, if_pos i2] at this
    exact this
theorem cnt_eq (l : List UInt8) : Lib.countByte l 10 = l.count 10 := rfl
theorem nx_more (W : World) (k : Nat) (hk : W.heap.size = k) (t : ByteArray) (pos : Nat) (h : pos < t.size) (ty : TypeId) :
    (Instr.next (.pointer (some ⟨k, 0, none⟩)) true ty).run Tryd.prog (W.iter t pos) = .ok (.tuple #[.bool true, .int .i64 (pos : Int), .int .i32 ((Utf8.decode t pos).1 : Int)]) (W.iter t (pos + wd (t.data.toList.drop pos))) := by
  subst hk
  rw [← decode_wd]
  exact run_next_any W t pos ty h
theorem nx_end (W : World) (k : Nat) (hk : W.heap.size = k) (t : ByteArray) (pos : Nat) (h : ¬ pos < t.size) (ty : TypeId) :
    (Instr.next (.pointer (some ⟨k, 0, none⟩)) true ty).run Tryd.prog (W.iter t pos) = .ok (.tuple #[.bool false]) (W.iter t pos) := by
  subst hk
  exact run_next_end W t pos ty h
theorem it_pos (W : World) (k : Nat) (hk : W.heap.size = k) (t : ByteArray) (pos : Nat) : (W.iter t pos).iterPos k = pos := by
  subst hk
  exact World.iterPos_iter W t pos
/-- line and column -/
def liN (l : List UInt8) (f : Nat) : Nat := 1 + (l.take f).count 10
def coN (l : List UInt8) (f a : Nat) : Nat := 1 + cntS ((l.drop f).take (a - f))
def WhQ (s : ByteArray) (a : Nat) (w : World) (e : Ending) (w' : World) : Prop :=
  ∃ f, IsFrm s.data.toList a f ∧ e = .returned (.tuple #[.agg #[.int .i64 (liN s.data.toList f : Nat), .int .i64 (coN s.data.toList f a : Nat)], .int .i64 0]) ∧ Below w.heap.size w w'
set_option maxRecDepth 100000 in
set_option maxHeartbeats 4000000 in
theorem where_any (s : ByteArray) (hs : s.size ≤ 1048576) (a : Nat) (ha : a ≤ s.size) (w : World) : Calls Tryd.prog 4 #[.string s, .int .i64 (a : Int)] w (WhQ s a w) := by
  have hsl := fun W => upto_slice s a ha W
  have HL := Lib.hid (size_list s)
  have HLA := Lib.hid (fun W => last_any (s.extract 0 a) (by simp; omega) W)
  have HT := Lib.hid (ext_list s 0 a)
  rw [List.drop_zero, Nat.sub_zero] at HT
  have HQ : Hid (∀ f w', IsFrm s.data.toList a f → Below w.heap.size w w' → WhQ s a w (.returned (.tuple #[.agg #[.int .i64 (liN s.data.toList f : Nat), .int .i64 (coN s.data.toList f a : Nat)], .int .i64 0])) w') := fun f w' h hb => ⟨f, h, rfl, hb⟩
  generalize WhQ s a w = Q at HQ ⊢
  go_enter Tryd.func4, Tryd.ntmps4
  go_wp2_with fail
  refine (HLA.out _).mono ?_
  rintro e w5 ⟨⟨f, rfl, hf⟩, rfl⟩
  rw [HT.out] at hf
  have hfr := frm_of (by rw [HL.out]; exact ha) hf
  have HFR := Lib.hid hfr
  have hfa := hfr.le
  clear hf hfr
  have hmd := fun W => mid_slice s f a hfa ha W
  have HM := Lib.hid (ext_list s f a)
  have hms := ext_size s f a hfa ha
  generalize s.extract f a = t at hmd HM hms
  have hwf : wrap64 (f : Int) = (f : Int) := by unfold wrap64; omega
  have HCN := Lib.hid (fun W => sh_strings_Count_one (s.extract 0 f) 10 W)
  rw [ext_list s 0 f, cnt_eq, List.drop_zero, Nat.sub_zero] at HCN
  have HLI : Hid (liN s.data.toList f = 1 + (s.data.toList.take f).count 10) := rfl
  have hcl : (s.data.toList.take f).count 10 ≤ 1048576 := by
    have h1 := List.count_le_length (a := (10 : UInt8)) (l := s.data.toList.take f)
    rw [List.length_take] at h1
    omega
  generalize (s.data.toList.take f).count 10 = cl at HLI hcl HCN
  have HCO : Hid (coN s.data.toList f a = 1 + cntS t.data.toList) := by show _ = _; rw [HM.out]; rfl
  have HFL := Lib.hid (HQ.out f)
  clear HQ HLA
  have HTL := Lib.hid (size_list t)
  have htb : t.size ≤ 1048576 := by omega
  have HIP := Lib.hid (fun p => it_pos (w.alloc (Obj.cells #[Value.int IntKind.i64 0, Value.int IntKind.i64 0] 23)) (w.heap.size + 1) (by simp) t p)
  clear hms
  go_wp2
  go_loopw [7] (fun v wr => ∃ n pos : Nat, v = .int .i64 n ∧ pos ≤ t.size ∧ n ≤ pos ∧ Hid (St t.data.toList 0 pos n) ∧ wr = (w.alloc (Obj.cells #[Value.int IntKind.i64 0, Value.int IntKind.i64 0] 23)).iter t pos) (fun _ w' => t.size - w'.iterPos (w.heap.size + 1))
  case atStart => exact ⟨0, 0, rfl, by omega, by omega, St.nil 0, rfl⟩
  case round =>
    obtain ⟨n, pos, rfl, hpos, hnp, HS, rfl⟩ := hrel
    by_cases hp : pos < t.size
    · have hpl : pos < t.data.toList.length := by rw [HTL.out]; exact hp
      have HS2 := Lib.hid (HS.out.app (.cons pos _ 0 hpl (.nil _)))
      have hst := step_le hpl
      have hwd := wd_pos (t.data.toList.drop pos)
      rw [HTL.out] at hst
      have hnx := fun ty => nx_more (w.alloc (Obj.cells #[Value.int IntKind.i64 0, Value.int IntKind.i64 0] 23)) (w.heap.size + 1) (by simp) t pos hp ty
      generalize wd (t.data.toList.drop pos) = d at hnx HS2 hst hwd
      go_wp2
      go_roundw
      case rel => exact ⟨n + 1, pos + d, by go_num, hst, by omega, HS2, rfl⟩
      case measure =>
        rw [HIP.out, HIP.out]
        omega
    · obtain rfl : pos = t.size := by omega
      have hnx := fun ty => nx_end (w.alloc (Obj.cells #[Value.int IntKind.i64 0, Value.int IntKind.i64 0] 23)) (w.heap.size + 1) (by simp) t t.size hp ty
      have hcs : cntS t.data.toList = n := by
        have := HS.out.cntS (by omega)
        rw [List.drop_zero, Nat.sub_zero, List.take_of_length_le (Nat.le_of_eq HTL.out)] at this
        exact this
      have HCS := Lib.hid hcs
      clear hcs
      have hbl : Blk ((w.alloc (Obj.cells #[Value.int IntKind.i64 0, Value.int IntKind.i64 0] 23)).iter t t.size) w.heap.size 23 #[.int .i64 0, .int .i64 0] := (blk_at rfl).alloc _
      have b0 := hbl.cell 0
      have b1 := hbl.cell 1
      have f0 := hbl.frozen 0
      have f1 := hbl.frozen 1
      have hbw : Below w.heap.size w ((w.alloc (Obj.cells #[Value.int IntKind.i64 0, Value.int IntKind.i64 0] 23)).iter t t.size) := ((Below.refl _ _).alloc (Nat.le_refl _) _).alloc (by simp) _
      clear HS
      go_wp2_with fail
      refine (HCN.out _).mono ?_
      rintro e w6 ⟨rfl, rfl⟩
      have hbl2 := (hbl.set_ 0 (.int .i64 (1 + (cl : Int)))).set_ 1 (.int .i64 (1 + (n : Int)))
      have c0 : ((((w.alloc (Obj.cells #[Value.int IntKind.i64 0, Value.int IntKind.i64 0] 23)).iter t t.size).setCell ⟨w.heap.size, 0, none⟩ (.int .i64 (1 + (cl : Int)))).setCell ⟨w.heap.size, 1, none⟩ (.int .i64 (1 + (n : Int)))).cell? ⟨w.heap.size, 0, none⟩ = some (.int .i64 (1 + (cl : Int))) := hbl2.cell 0
      have c1 : ((((w.alloc (Obj.cells #[Value.int IntKind.i64 0, Value.int IntKind.i64 0] 23)).iter t t.size).setCell ⟨w.heap.size, 0, none⟩ (.int .i64 (1 + (cl : Int)))).setCell ⟨w.heap.size, 1, none⟩ (.int .i64 (1 + (n : Int)))).cell? ⟨w.heap.size, 1, none⟩ = some (.int .i64 (1 + (n : Int))) := hbl2.cell 1
      have hbw2 := (hbw.setCell (Nat.le_refl _) (p := ⟨w.heap.size, 0, none⟩) (.int .i64 (1 + (cl : Int)))).setCell (Nat.le_refl _) (p := ⟨w.heap.size, 1, none⟩) (.int .i64 (1 + (n : Int)))
      go_wp2
      refine bodyPost_ret (v := .tuple #[.agg #[.int .i64 (1 + (cl : Int)), .int .i64 (1 + (n : Int))], .int .i64 0]) (by simp [results, Tryd.results4, go_sem, c0, c1]) rfl ?_
      have h := HFL.out _ HFR.out hbw2
      rw [HLI.out, HCO.out, HCS.out] at h
      rw [show ((1 + cl : Nat) : Int) = 1 + (cl : Int) by omega, show ((1 + n : Nat) : Int) = 1 + (n : Int) by omega] at h
      exact h
end Go.Proofs.YtmikpogmklindaaDoor
