/- What chaffref.Said and chaffkeep.said answer. -/
import Derived.Test.YtphfckihdhmhpaaGdB
import Derived.Test.YtphfckihdhmhpaaIxI
namespace Go.Proofs.Ytphfckihdhmhpaa
open Go.RowKit

theorem wrap_i64z (n : Int) (h1 : -9223372036854775808 ≤ n) (h2 : n ≤ 9223372036854775807) : IntKind.i64.wrap n = n := by
  unfold IntKind.wrap IntKind.signed IntKind.bits
  simp
  omega
/-- what the first k marks of a row say -/
def saidK (r : List Int) (k : Nat) : List Nat := (List.range (2 * k)).filter (says r)
theorem saidK_succ {r : List Int} {k : Nat} {z : Int} (h : r[k]? = some z) : saidK r (k + 1) = saidK r k ++ ((if (z % 2 == 1) = true then [2 * k] else []) ++ (if (z / 2 == 1) = true then [2 * k + 1] else [])) := by
  unfold saidK
  have e0 : says r (2 * k) = (z % 2 == 1) := by
    unfold says
    rw [show 2 * k / 2 = k by omega, h]
    simp only
    rw [if_pos (by omega)]
  have e1 : says r (2 * k + 1) = (z / 2 == 1) := by
    unfold says
    rw [show (2 * k + 1) / 2 = k by omega, h]
    simp only
    rw [if_neg (by omega)]
  rw [show 2 * (k + 1) = 2 * k + 1 + 1 by omega, List.range_succ, List.range_succ, List.filter_append, List.filter_append, List.filter_cons, List.filter_cons, e0, e1, List.append_assoc]
  rfl
theorem saidK_len (r : List Int) (k : Nat) : (saidK r k).length = cntN (2 * k) (says r) := by
  unfold saidK cntN
  rw [List.countP_eq_length_filter]
theorem saidK_le (r : List Int) (k : Nat) : (saidK r k).length ≤ 2 * k := by
  rw [saidK_len]
  exact cntN_le _ _
theorem mem_saidK {r : List Int} {k x : Nat} : x ∈ saidK r k ↔ x < 2 * k ∧ says r x = true := by
  unfold saidK
  rw [List.mem_filter, List.mem_range]
theorem natI_app (a b : List Nat) : natI (a ++ b) = natI a ++ natI b := by simp [natI]
theorem natI_len (a : List Nat) : (natI a).length = a.length := by simp [natI]
theorem mem_natI {x : Nat} {l : List Nat} : ((x : Int) ∈ natI l) ↔ x ∈ l := by
  rw [natI, List.mem_map]
  exact ⟨fun ⟨a, h, e⟩ => by have : a = x := by omega
                             exact this ▸ h, fun h => ⟨x, h, rfl⟩⟩
theorem natI_at {l : List Nat} {k : Nat} {z : Int} (h : (natI l)[k]? = some z) : ∃ n : Nat, l[k]? = some n ∧ z = (n : Int) := by
  unfold natI at h
  rw [List.getElem?_map, Option.map_eq_some_iff] at h
  obtain ⟨n, h1, h2⟩ := h
  exact ⟨n, h1, h2.symm⟩

set_option maxRecDepth 100000 in
set_option maxHeartbeats 1000000 in
theorem rsaid_any (A : Option Addr) (n c : Nat) (r : List Int) (B : Nat) (w : World) (hr : Reads w B 1 A n (ints r)) (hB : B ≤ w.heap.size) (hn : n ≤ 120) (hm : Marks r) :
    Calls Try.prog 38 #[.slice A n c] w fun e w' => ∃ V c', e = .returned (.slice V (saidK r n).length c') ∧ w'.ownsRow w.heap.size 3 1 (.slice V (saidK r n).length c') (saidK r n).length (ints (natI (saidK r n))) ∧ Below w.heap.size w w' := by
  obtain ⟨i0, hi0, hz0, hz1, hz2⟩ := info_parts int_info
  have HL := Lib.hid hr.ints_len
  have HM := Lib.hid hm
  have HR := Lib.hid hr
  clear hr hm
  go_enter Try.func38, Try.ntmps38
  go_wp2
  go_loopw [3, 4, 5, 8] (fun vo _ _ i wr => ∃ (k : Nat) (out : List Nat) (V : Option Addr) (co : Nat), k ≤ n ∧ i = .int .i64 k ∧ vo = .slice V out.length co ∧ Hid (out = saidK r k) ∧ out.length ≤ 2 * k ∧ Hid (wr.ownsRow w.heap.size 3 1 (.slice V out.length co) out.length (ints (natI out))) ∧ Below w.heap.size w wr) (fun _ _ _ i _ => n - (intOf i).toNat)
  case atStart => exact ⟨0, [], none, 0, by omega, rfl, rfl, rfl, by simp, World.ownsRow_nil _ _ _ _, Below.refl _ _⟩
  case round =>
    obtain ⟨k, out, V, co, hk, rfl, rfl, HO, hol, HW, hwr⟩ := hrel
    have hwz := hwr.size
    by_cases hkn : k < n
    · obtain ⟨ad, z, rfl, hab, hz, hc⟩ := (HR.out.below (hwr.mono hB)).int_at hkn
      have hz3 := HM.out z (List.mem_of_getElem? hz)
      have HS := Lib.hid (saidK_succ hz)
      have hk0 : (0 : Int) ≤ (k : Int) := by omega
      have hk1 : (k : Int) < (n : Int) := by omega
      clear hz
      rcases (by omega : z = 0 ∨ z = 1 ∨ z = 2 ∨ z = 3) with rfl | rfl | rfl | rfl
      · have HS2 : Hid (out = saidK r (k + 1)) := by show _ = _; rw [HS.out, ← HO.out]; simp
        go_wp2
        go_roundw
        case rel => exact ⟨k + 1, out, V, co, by omega, by go_num, rfl, HS2, by omega, HW, hwr⟩
        case measure => simp [intOf]; omega
      · have HS2 : Hid (out ++ [2 * k] = saidK r (k + 1)) := by show _ = _; rw [HS.out, ← HO.out]; simp
        have hke : IntKind.i64.wrap (2 * (k : Int)) = ((2 * k : Nat) : Int) := by rw [wrap_i64z _ (by omega) (by omega)]; omega
        go_wp2_with (at_builtin; refine wpList_append_own _ rfl _ _ _ rfl w.heap.size 3 i0 _ 1 8 Try.underlying63 hi0 hz0 hz1 hz2 rfl (by decide) _ _ _ rfl (HW.out.alloc _) ⟨wr.heap.size, 0, none⟩ 1 1 [.int .i64 ((2 * k : Nat) : Int)] rfl rfl (cells_newZ wr 3 [.int .i64 ((2 * k : Nat) : Int)]) (by simp [Value.oneCell']) (by unfold maxLen; omega) (by omega) (by simp; omega) ?_; intro v' w6 hown6 hgr6 _; obtain ⟨V6, c6, rfl⟩ := own_form hown6)
        have hw6 := below_app (hwr.alloc hwz _) (HW.out.alloc _) hgr6 (by simp; omega) (Nat.le_refl _)
        go_roundw
        case rel => exact ⟨k + 1, out ++ [2 * k], V6, c6, by omega, by go_num, by rw [List.length_append]; rfl, HS2, by rw [List.length_append, List.length_singleton]; omega, by rw [List.length_append, natI_app, ints_append]; exact hown6, hw6⟩
        case measure => simp [intOf]; omega
      · have HS2 : Hid (out ++ [2 * k + 1] = saidK r (k + 1)) := by show _ = _; rw [HS.out, ← HO.out]; simp
        have hke : IntKind.i64.wrap (2 * (k : Int)) = ((2 * k : Nat) : Int) := by rw [wrap_i64z _ (by omega) (by omega)]; omega
        have hke1 : IntKind.i64.wrap (((2 * k : Nat) : Int) + 1) = ((2 * k + 1 : Nat) : Int) := by rw [wrap_i64z _ (by omega) (by omega)]; omega
        go_wp2_with (at_builtin; refine wpList_append_own _ rfl _ _ _ rfl w.heap.size 3 i0 _ 1 8 Try.underlying63 hi0 hz0 hz1 hz2 rfl (by decide) _ _ _ rfl (HW.out.alloc _) ⟨wr.heap.size, 0, none⟩ 1 1 [.int .i64 ((2 * k + 1 : Nat) : Int)] rfl rfl (cells_newZ wr 3 [.int .i64 ((2 * k + 1 : Nat) : Int)]) (by simp [Value.oneCell']) (by unfold maxLen; omega) (by omega) (by simp; omega) ?_; intro v' w6 hown6 hgr6 _; obtain ⟨V6, c6, rfl⟩ := own_form hown6)
        have hw6 := below_app (hwr.alloc hwz _) (HW.out.alloc _) hgr6 (by simp; omega) (Nat.le_refl _)
        go_roundw
        case rel => exact ⟨k + 1, out ++ [2 * k + 1], V6, c6, by omega, by go_num, by rw [List.length_append]; rfl, HS2, by rw [List.length_append, List.length_singleton]; omega, by rw [List.length_append, natI_app, ints_append]; exact hown6, hw6⟩
        case measure => simp [intOf]; omega
      · have HS2 : Hid ((out ++ [2 * k]) ++ [2 * k + 1] = saidK r (k + 1)) := by show _ = _; rw [HS.out, ← HO.out]; simp
        have hke : IntKind.i64.wrap (2 * (k : Int)) = ((2 * k : Nat) : Int) := by rw [wrap_i64z _ (by omega) (by omega)]; omega
        have hke1 : IntKind.i64.wrap (((2 * k : Nat) : Int) + 1) = ((2 * k + 1 : Nat) : Int) := by rw [wrap_i64z _ (by omega) (by omega)]; omega
        go_wp2_with (first
          | (at_builtin; refine wpList_append_own _ rfl _ _ _ rfl w.heap.size 3 i0 _ 1 8 Try.underlying63 hi0 hz0 hz1 hz2 rfl (by decide) _ _ _ rfl (HW.out.alloc _) ⟨wr.heap.size, 0, none⟩ 1 1 [.int .i64 ((2 * k : Nat) : Int)] rfl rfl (cells_newZ wr 3 [.int .i64 ((2 * k : Nat) : Int)]) (by simp [Value.oneCell']) (by unfold maxLen; omega) (by omega) (by simp; omega) ?_; intro v' w6 hown6 hgr6 _; obtain ⟨V6, c6, rfl⟩ := own_form hown6; have hw6 := below_app (hwr.alloc hwz _) (HW.out.alloc _) hgr6 (by simp; omega) (Nat.le_refl _); have h6z := hw6.size; have H6 := Lib.hid hown6; clear hown6 hgr6)
          | (at_builtin; refine wpList_append_own _ rfl _ _ _ rfl w.heap.size 3 i0 _ 1 8 Try.underlying63 hi0 hz0 hz1 hz2 rfl (by decide) _ _ _ rfl (H6.out.alloc _) ⟨w6.heap.size, 0, none⟩ 1 1 [.int .i64 ((2 * k + 1 : Nat) : Int)] rfl rfl (cells_newZ w6 3 [.int .i64 ((2 * k + 1 : Nat) : Int)]) (by simp [Value.oneCell']) (by unfold maxLen; omega) (by omega) (by simp; omega) ?_; intro v' w7 hown7 hgr7 _; obtain ⟨V7, c7, rfl⟩ := own_form hown7))
        have hw7 := below_app (hw6.alloc h6z _) (H6.out.alloc _) hgr7 (by simp; omega) (Nat.le_refl _)
        go_roundw
        case rel => exact ⟨k + 1, (out ++ [2 * k]) ++ [2 * k + 1], V7, c7, by omega, by go_num, by rw [List.length_append, List.length_append]; rfl, HS2, by rw [List.length_append, List.length_append, List.length_singleton, List.length_singleton]; omega, by rw [List.length_append, List.length_append, natI_app, natI_app, ints_append, ints_append]; exact hown7, hw7⟩
        case measure => simp [intOf]; omega
    · obtain rfl : k = n := by omega
      obtain rfl := HO.out
      go_wp2
      go_ret
      exact ⟨V, co, rfl, HW.out, hwr⟩
end Go.Proofs.Ytphfckihdhmhpaa
