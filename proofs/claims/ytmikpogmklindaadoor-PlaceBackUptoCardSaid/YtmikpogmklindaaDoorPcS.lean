/- chaffref.Signs: where each sign begins. -/
import Derived.Test.YtmikpogmklindaaDoorPcF
namespace Go.Proofs.YtmikpogmklindaaDoor
open Go.RowKit

theorem from_slice (s : ByteArray) (i : Nat) (h : i ≤ s.size) (w : World) :
    (Instr.slice 9 (.string s) (some (.int .i64 (i : Int))) none none).run Tryd.prog w = .ok (.string (s.extract i s.size)) w := by
  have hu := Tryd.underlying9
  simp [Instr.slice, run_underlying hu, Instr.sliceBounds, go_sem]
  omega
theorem from_list (s : ByteArray) (i : Nat) : (s.extract i s.size).data.toList = s.data.toList.drop i := by
  have h : s.data.toList.length = s.size := size_list s
  simp only [ByteArray.data_extract, Array.toList_extract, List.extract_eq_take_drop]
  rw [List.take_of_length_le (by rw [List.length_drop]; omega)]
theorem from_size (s : ByteArray) (i : Nat) : (s.extract i s.size).size = s.size - i := by simp
def nI (l : List Nat) : List Int := l.map fun (n : Nat) => (n : Int)
theorem nI_snoc (l : List Nat) (b : Nat) : ints (nI (l ++ [b])) = ints (nI l) ++ [.int .i64 b] := by simp [nI, ints]
theorem nI_len (l : List Nat) : (nI l).length = l.length := by simp [nI]
theorem cells_newP (w : World) (t : TypeId) (cs : List Value) : ∀ (j : Nat) (u : Value), cs[j]? = some u → (w.alloc (.cells cs.toArray t)).cell? ((⟨w.heap.size, 0, none⟩ : Addr).add j) = some u := by
  intro j u h
  have hb : Blk (w.alloc (.cells cs.toArray t)) w.heap.size t cs.toArray := blk_at rfl
  have h1 : (⟨w.heap.size, 0, none⟩ : Addr).add j = ⟨w.heap.size, j, none⟩ := by
    cases j with
    | zero => rfl
    | succ j => simp [Addr.add]
  rw [h1]
  exact (hb.cell j).trans (by rw [List.getElem?_toArray]; exact h)
theorem int_infoP : (Tryd.prog.info? 3).map (fun i => (i.zero, i.size, i.bytes)) = some (some (.int .i64 0), 1, 8) := by kernel_rfl
/-- what Signs answers -/
def SgQ (s : ByteArray) (w : World) (e : Ending) (w' : World) : Prop :=
  ∃ (ps : List Nat) (V : Option Addr) (c : Nat), e = .returned (.slice V ps.length c) ∧ Plc s.data.toList ps s.size ∧ w'.ownsRow w.heap.size 3 1 (.slice V ps.length c) ps.length (ints (nI ps)) ∧ Below w.heap.size w w'
set_option maxRecDepth 100000 in
set_option maxHeartbeats 4000000 in
theorem signs_any (s : ByteArray) (hs : s.size ≤ 1048576) (w : World) : Calls Tryd.prog 5 #[.string s] w (SgQ s w) := by
  obtain ⟨i0, hi0, hz0, hz1, hz2⟩ := info_parts int_infoP
  have HL := Lib.hid (size_list s)
  have HQ : Hid (∀ e w', (∃ (ps : List Nat) (V : Option Addr) (c : Nat), e = .returned (.slice V ps.length c) ∧ Plc s.data.toList ps s.size ∧ w'.ownsRow w.heap.size 3 1 (.slice V ps.length c) ps.length (ints (nI ps)) ∧ Below w.heap.size w w') → SgQ s w e w') := fun _ _ h => h
  generalize SgQ s w = Q at HQ ⊢
  go_enter Tryd.func5, Tryd.ntmps5
  go_wp2
  go_loopw [3, 4] (fun vo i wr => ∃ (q : Nat) (ps : List Nat) (V : Option Addr) (co : Nat), q ≤ s.size ∧ i = .int .i64 q ∧ vo = .slice V ps.length co ∧ Hid (Plc s.data.toList ps q) ∧ ps.length ≤ q ∧ Hid (wr.ownsRow w.heap.size 3 1 (.slice V ps.length co) ps.length (ints (nI ps))) ∧ Below w.heap.size w wr) (fun _ i _ => s.size - (intOf i).toNat)
  case atStart => exact ⟨0, [], none, 0, by omega, rfl, rfl, Plc.nil _, by simp, World.ownsRow_nil _ _ _ _, Below.refl _ _⟩
  case round =>
    obtain ⟨q, ps, V, co, hq, rfl, rfl, HP, hpl, HW, hwr⟩ := hrel
    have hwz := hwr.size
    by_cases hqn : q < s.size
    · have hfs := fun W => from_slice s q hq W
      have hql : q < s.data.toList.length := by rw [HL.out]; exact hqn
      have HP2 := Lib.hid (HP.out.push hql)
      have hst := step_le hql
      rw [HL.out] at hst
      have hwd := wd_pos (s.data.toList.drop q)
      have hfw := firL_wd (s.data.toList.drop q)
      have hfl := firL_le (s.data.toList.drop q)
      have HF := Lib.hid (fun W => first_any (s.extract q s.size) (by rw [from_size]; omega) W)
      rw [from_list] at HF
      generalize firL (s.data.toList.drop q) = m at HF hfw hfl
      generalize wd (s.data.toList.drop q) = d at HP2 hst hwd hfw
      generalize s.extract q s.size = t at hfs HF
      clear hql
      go_wp2_with (first
        | (at_builtin; refine wpList_append_own _ rfl _ _ _ rfl w.heap.size 3 i0 _ 1 8 Tryd.underlying27 hi0 hz0 hz1 hz2 rfl (by decide) _ _ _ rfl (HW.out.alloc _) ⟨wr.heap.size, 0, none⟩ 1 1 [.int .i64 (q : Int)] rfl rfl (cells_newP wr 3 [.int .i64 (q : Int)]) (by simp [Value.oneCell']) (by unfold maxLen; omega) (by omega) (by simp; omega) ?_; intro v' w6 hown6 hgr6 _; obtain ⟨V6, c6, rfl⟩ := own_form hown6)
        | (go_at_call 10; refine (HF.out _).mono ?_; rintro e w5 ⟨rfl, rfl⟩))
      have hw6 := below_app (hwr.alloc hwz _) (HW.out.alloc _) hgr6 (by simp; omega) (Nat.le_refl _)
      have hmx : (if (1 : Int) < (m : Int) then (m : Int) else 1) = (d : Int) := by split <;> omega
      rw [hmx]
      refine ⟨⟨q + d, ps ++ [q], V6, c6, hst, by go_num, by rw [List.length_append]; rfl, HP2, by rw [List.length_append, List.length_singleton]; omega, ?_, hw6⟩, by simp [intOf]; omega⟩
      rw [List.length_append, nI_snoc]
      exact hown6
    · obtain rfl : q = s.size := by omega
      go_wp2
      exact HQ.out _ _ ⟨ps, V, co, rfl, HP.out, HW.out, hwr⟩
end Go.Proofs.YtmikpogmklindaaDoor
