/- The walk of the law PlaceBack. -/
import Derived.Test.YtmikpogmklindaaDoorPcC
namespace Go.Proofs.YtmikpogmklindaaDoor
open Go.RowKit

theorem run_same_pos (w : World) (b b' n n' : Int) : (Op.equalIn 10000 23 (.agg #[.int .i64 b, .int .i64 n]) (.agg #[.int .i64 b', .int .i64 n'])).run Tryd.prog w = .ok (b == b' && n == n') w := by
  have u3 := Tryd.underlying3
  have a3 := Tryd.isAgg3
  have z3 := Tryd.sizeOf3
  have hS : Tryd.prog.underlying 23 = some (.struct (Tryd.prog.fieldsOf 23)) := by kernel_rfl
  have hp : Tryd.prog.stoodInHeld 23 = false := by kernel_rfl
  rw [show (10000 : Nat) = 9999 + 1 from rfl, run_equalIn_agg w 9999 23 _ _ hS hp]
  simp only [Program.fieldsOf, Tryd.underlying23]
  go_simp
  cases h1 : (b == b') <;> cases h : (n == n') <;> simp_all
theorem nI_at {l : List Nat} {k : Nat} {z : Int} (h : (nI l)[k]? = some z) : ∃ n : Nat, l[k]? = some n ∧ z = (n : Int) := by
  unfold nI at h
  rw [List.getElem?_map, Option.map_eq_some_iff] at h
  obtain ⟨n, h1, h2⟩ := h
  exact ⟨n, h1, h2.symm⟩
theorem abc_frm : IsFrm [97, 10, 98, 99] 3 2 := ⟨by omega, .inr rfl, fun i h1 h2 => by
  obtain rfl : i = 2 := by omega
  decide⟩
theorem frm_uniq {l : List UInt8} {a f g : Nat} (F : IsFrm l a f) (G : IsFrm l a g) : f = g := by
  have hf := F.le
  have hg := G.le
  rcases Nat.lt_trichotomy f g with h | h | h
  · rcases G.nl with e | e
    · omega
    · exact absurd e (F.no (g - 1) (by omega) (by omega))
  · exact h
  · rcases F.nl with e | e
    · omega
    · exact absurd e (G.no (f - 1) (by omega) (by omega))
theorem abc_li : liN [97, 10, 98, 99] 2 = 2 := by decide +kernel
theorem abc_co : coN [97, 10, 98, 99] 2 3 = 2 := by decide +kernel
set_option maxRecDepth 100000 in
set_option maxHeartbeats 4000000 in
theorem walk_PlaceBack (s : ByteArray) (a : Int) (hs : s.size ≤ 1048576) (w : World) (hT : Lib.Utf8Tabs 1 2 w) : Calls Tryd.prog 3 #[.string s, .int .i64 a] w fun e w' => e = .returned (.bool true) ∧ Below w.heap.size w w' := by
  obtain ⟨i0, hi0, hz0, hz1, hz2⟩ := info_parts int_infoP
  have HL := Lib.hid (size_list s)
  have HSG := Lib.hid (fun W => signs_any s hs W)
  have HT := Lib.hid hT
  have HAB := Lib.hid (fun W => where_any ⟨#[97, 10, 98, 99]⟩ (by decide) 3 (by decide) W)
  have hsp := fun W b b' n n' => run_same_pos W b b' n n'
  clear hT
  go_enter Tryd.func3, Tryd.ntmps3
  go_wp2_with fail
  refine (HAB.out _).mono ?_
  rintro e w1 ⟨f0, hf0, rfl, hb1⟩
  obtain rfl := frm_uniq (l := [97, 10, 98, 99]) hf0 abc_frm
  rw [show liN (⟨#[97, 10, 98, 99]⟩ : ByteArray).data.toList 2 = 2 from abc_li, show coN (⟨#[97, 10, 98, 99]⟩ : ByteArray).data.toList 2 3 = 2 from abc_co]
  have hs1 := hb1.size
  clear hf0 HAB
  have hbW := hb1.alloc hs1 (Obj.cells #[Value.int IntKind.i64 2, Value.int IntKind.i64 2] 23)
  have hsW := hbW.size
  go_wp2_with fail
  generalize w1.alloc (Obj.cells #[Value.int IntKind.i64 2, Value.int IntKind.i64 2] 23) = W1 at hbW hsW ⊢
  refine (HSG.out _).mono ?_
  rintro e w2 ⟨ps, V, c, rfl, hplc, hown, hb2⟩
  have hpl := hplc.len
  have HP := Lib.hid (hplc.all HL.out)
  have HW := Lib.hid hown
  have hz2' := hb2.size
  have hw2 := hbW.trans (hb2.mono hsW)
  have hz3' := hw2.size
  clear hplc hown HSG
  go_wp2_with (at_builtin; refine wpList_append_own _ rfl _ _ _ rfl W1.heap.size 3 i0 _ 1 8 Tryd.underlying27 hi0 hz0 hz1 hz2 rfl (by decide) _ _ _ rfl (HW.out.alloc _) ⟨w2.heap.size, 0, none⟩ 1 1 [.int .i64 (s.size : Int)] rfl rfl (cells_newP w2 3 [.int .i64 (s.size : Int)]) (by simp [Value.oneCell']) (by unfold maxLen; omega) (by omega) (by simp; omega) ?_; intro v' w6 hown6 hgr6 _; obtain ⟨V6, c6, rfl⟩ := own_form hown6)
  have hw6 := below_app (hw2.alloc hz3' _) (HW.out.alloc _) hgr6 (by simp; omega) (by omega)
  rw [← nI_snoc] at hown6
  have hr6 := Reads.of_own hown6
  have hs6 := hw6.size
  clear hown6 hgr6 HW
  rw [HL.out] at HP
  obtain ⟨L, hLL⟩ : ∃ L, L = ps ++ [s.size] := ⟨_, rfl⟩
  rw [← hLL] at HP hr6
  have hL : L.length = ps.length + 1 := by rw [hLL]; simp
  generalize ps.length = n at hpl hL hr6 ⊢
  obtain ⟨A, hA⟩ : ∃ A, A = wiN a (n + 1) := ⟨_, rfl⟩
  have hAl : A < n + 1 := by rw [hA]; exact wiN_lt a (by omega)
  have hwa := fun W => within_any a (n + 1) (by omega) (by omega) W
  rw [← hA, show ((n + 1 : Nat) : Int) = (n : Int) + 1 by omega] at hwa
  clear hA hLL
  refine (hwa _).mono ?_
  rintro e w7 ⟨rfl, hb7⟩
  have hw7 := hw6.trans (hb7.mono hs6)
  have hs7 := hb7.size
  have hr7 := hr6.below hb7
  obtain ⟨ad, z, rfl, hab, hzp, hcp⟩ := hr7.int_at hAl
  obtain ⟨xp, hxp, rfl⟩ := nI_at hzp
  obtain ⟨hp1, hp2⟩ := HP.out.1 _ _ hxp
  have HPP := Lib.hid hp2
  clear hwa hr6 hb7 hzp hxp hp2 hr7 HP
  have HWP := Lib.hid (fun W => where_any s hs xp hp1 W)
  have hm0 : (0 : Int) ≤ (A : Int) := by omega
  have hm1 : (A : Int) < (n : Int) + 1 := by omega
  go_wp2_with fail
  refine (HWP.out _).mono ?_
  rintro e w8 ⟨f, hf, rfl, hb8⟩
  have hs8 := hb8.size
  have hw8 := hw7.trans (hb8.mono (by omega))
  have HTW := Lib.hid (Utf8Tabs_below HT.out hw8)
  have HBK := Lib.hid (fun W (hW : Below w8.heap.size w8 W) => back_any s hs xp f hp1 hf HPP.out W (Utf8Tabs_below HTW.out hW))
  clear hf HWP hb8 HPP
  generalize liN s.data.toList f = lp at HBK ⊢
  generalize coN s.data.toList f xp = cp at HBK ⊢
  have hbp : Blk (w8.alloc (Obj.cells #[Value.int IntKind.i64 (lp : Int), Value.int IntKind.i64 (cp : Int)] 23)) w8.heap.size 23 #[.int .i64 (lp : Int), .int .i64 (cp : Int)] := blk_at rfl
  have p0 := hbp.cell 0
  have p1 := hbp.cell 1
  have hbb : Below w8.heap.size w8 (w8.alloc (Obj.cells #[Value.int IntKind.i64 (lp : Int), Value.int IntKind.i64 (cp : Int)] 23)) := (Below.refl _ _).alloc (Nat.le_refl _) _
  have hw9 := hw8.trans (hbb.mono (by omega))
  have hs9 := hw9.size
  go_wp2_with fail
  refine (HBK.out _ hbb).mono ?_
  rintro e w10 ⟨rfl, hb10⟩
  have hw10 := hw9.trans (hb10.mono hs9)
  go_wp2
  go_ret
  exact ⟨rfl, hw10⟩
end Go.Proofs.YtmikpogmklindaaDoor
