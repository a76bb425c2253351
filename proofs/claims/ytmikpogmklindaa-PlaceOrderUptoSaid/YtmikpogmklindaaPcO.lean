/- The walk of the law PlaceOrder. -/
import Derived.Test.YtmikpogmklindaaPcW
import Derived.Test.YtmikpogmklindaaWiA
namespace Go.Proofs.Ytmikpogmklindaa
open Go.RowKit

theorem frm_uniq {l : List UInt8} {a f g : Nat} (F : IsFrm l a f) (G : IsFrm l a g) : f = g := by
  have hf := F.le
  have hg := G.le
  rcases Nat.lt_trichotomy f g with h | h | h
  · rcases G.nl with e | e
    · omega
    · exact absurd e (F.no (g - 1) (by omega) (by omega))
  · exact h
  · rcases F.nl with e | e
    · omega
    · exact absurd e (G.no (f - 1) (by omega) (by omega))
theorem co_nl {l : List UInt8} {a f : Nat} (h0 : 0 < a) (F : IsFrm l a f) (h : l[a - 1]? = some 10) : coN l f a = 1 := by
  obtain rfl := frm_at h0 F h
  unfold coN
  rw [Nat.sub_self, List.take_zero]
  rfl
/-- of two places the later one is in a later line, or farther in the same -/
theorem pos_lt {l : List UInt8} {a b f g : Nat} (hab : a < b) (hb : b ≤ l.length) (Fa : IsFrm l a f) (Fb : IsFrm l b g) (Ba : ∃ k, St l 0 a k) (Bb : ∃ k, St l 0 b k) :
    liN l f < liN l g ∨ (liN l f = liN l g ∧ coN l f a < coN l g b) := by
  obtain ⟨ka, Ba⟩ := Ba
  obtain ⟨kb, Bb⟩ := Bb
  have := place_lt hab hb Fa Fb Ba Bb
  unfold liN coN
  omega
theorem run_same_pos (w : World) (b b' n n' : Int) : (Op.equalIn 10000 26 (.agg #[.int .i64 b, .int .i64 n]) (.agg #[.int .i64 b', .int .i64 n'])).run Try.prog w = .ok (b == b' && n == n') w := by
  have u3 := Try.underlying3
  have a3 := Try.isAgg3
  have z3 := Try.sizeOf3
  have hS : Try.prog.underlying 26 = some (.struct (Try.prog.fieldsOf 26)) := by kernel_rfl
  have hp : Try.prog.stoodInHeld 26 = false := by kernel_rfl
  rw [show (10000 : Nat) = 9999 + 1 from rfl, run_equalIn_agg w 9999 26 _ _ hS hp]
  simp only [Program.fieldsOf, Try.underlying26]
  go_simp
  cases h1 : (b == b') <;> cases h : (n == n') <;> simp_all
theorem nI_at {l : List Nat} {k : Nat} {z : Int} (h : (nI l)[k]? = some z) : ∃ n : Nat, l[k]? = some n ∧ z = (n : Int) := by
  unfold nI at h
  rw [List.getElem?_map, Option.map_eq_some_iff] at h
  obtain ⟨n, h1, h2⟩ := h
  exact ⟨n, h1, h2.symm⟩
set_option maxRecDepth 100000 in
set_option maxHeartbeats 4000000 in
theorem walk_PlaceOrder (s : ByteArray) (a b : Int) (hs : s.size ≤ 1048576) (w : World) : Calls Try.prog 3 #[.string s, .int .i64 a, .int .i64 b] w fun e w' => e = .returned (.bool true) ∧ Below w.heap.size w w' := by
  obtain ⟨i0, hi0, hz0, hz1, hz2⟩ := info_parts int_infoP
  have HL := Lib.hid (size_list s)
  have HSG := Lib.hid (fun W => signs_any s hs W)
  go_enter Try.func3, Try.ntmps3
  go_wp2_with fail
  refine (HSG.out _).mono ?_
  rintro e w1 ⟨ps, V, c, rfl, hplc, hown, hb1⟩
  have hpl := hplc.len
  have HP := Lib.hid (hplc.all HL.out)
  have HW := Lib.hid hown
  have hz1' := hb1.size
  clear hplc hown
  go_wp2_with (at_builtin; refine wpList_append_own _ rfl _ _ _ rfl w.heap.size 3 i0 _ 1 8 Try.underlying22 hi0 hz0 hz1 hz2 rfl (by decide) _ _ _ rfl (HW.out.alloc _) ⟨w1.heap.size, 0, none⟩ 1 1 [.int .i64 (s.size : Int)] rfl rfl (cells_newP w1 3 [.int .i64 (s.size : Int)]) (by simp [Value.oneCell']) (by unfold maxLen; omega) (by omega) (by simp; omega) ?_; intro v' w6 hown6 hgr6 _; obtain ⟨V6, c6, rfl⟩ := own_form hown6)
  have hw6 := below_app (hb1.alloc hz1' _) (HW.out.alloc _) hgr6 (by simp; omega) (Nat.le_refl _)
  rw [← nI_snoc] at hown6
  have hr6 := Reads.of_own hown6
  have hs6 := hw6.size
  clear hown6 hgr6 HW
  rw [HL.out] at HP
  obtain ⟨L, hLL⟩ : ∃ L, L = ps ++ [s.size] := ⟨_, rfl⟩
  rw [← hLL] at HP hr6
  have hL : L.length = ps.length + 1 := by rw [hLL]; simp
  generalize ps.length = n at hpl hL hr6 ⊢
  obtain ⟨A, hA⟩ : ∃ A, A = wiN a (n + 1) := ⟨_, rfl⟩
  obtain ⟨B, hB⟩ : ∃ B, B = wiN b (n + 1) := ⟨_, rfl⟩
  have hAl : A < n + 1 := by rw [hA]; exact wiN_lt a (by omega)
  have hBl : B < n + 1 := by rw [hB]; exact wiN_lt b (by omega)
  have hwa := fun W => within_any a (n + 1) (by omega) (by omega) W
  have hwb := fun W => within_any b (n + 1) (by omega) (by omega) W
  rw [← hA, show ((n + 1 : Nat) : Int) = (n : Int) + 1 by omega] at hwa
  rw [← hB, show ((n + 1 : Nat) : Int) = (n : Int) + 1 by omega] at hwb
  obtain ⟨mn, mx, hmn, hmx, hcase⟩ : ∃ mn mx : Nat, (if (B : Int) < (A : Int) then (B : Int) else (A : Int)) = (mn : Int) ∧ (if (A : Int) < (B : Int) then (B : Int) else (A : Int)) = (mx : Int) ∧ ((A = B ∧ mn = B ∧ mx = B) ∨ (A ≠ B ∧ mn < mx ∧ mx < n + 1)) := by
    rcases Nat.lt_trichotomy A B with h | h | h
    · exact ⟨A, B, by rw [if_neg (by omega)], by rw [if_pos (by omega)], .inr ⟨by omega, h, hBl⟩⟩
    · exact ⟨B, B, by rw [if_neg (by omega)]; omega, by rw [if_neg (by omega)]; omega, .inl ⟨h, rfl, rfl⟩⟩
    · exact ⟨B, A, by rw [if_pos (by omega)], by rw [if_neg (by omega)], .inr ⟨by omega, h, hAl⟩⟩
  have hmn2 : min (A : Int) (B : Int) = (mn : Int) := by rw [← hmn]; split <;> omega
  have hmx2 : max (A : Int) (B : Int) = (mx : Int) := by rw [← hmx]; split <;> omega
  have hmnl : mn < n + 1 := by omega
  have hmxl : mx < n + 1 := by omega
  clear hA hB hLL
  refine (hwa _).mono ?_
  rintro e w7 ⟨rfl, hb7⟩
  have hw7 := hw6.trans (hb7.mono hs6)
  go_wp2_with fail
  refine (hwb _).mono ?_
  rintro e w8 ⟨rfl, hb8⟩
  have hs7 := hb7.size
  have hs8 := hb8.size
  have hr8 := (hr6.below hb7).below (hb8.mono (by omega))
  have hw8 := hw7.trans (hb8.mono (by omega))
  clear hwa hwb hr6 hb7 hb8 hw7
  obtain ⟨ad, z, rfl, hab, hzp, hcp⟩ := hr8.int_at hmnl
  obtain ⟨ad', z', e, -, hzq, hcq⟩ := hr8.int_at hmxl
  injection e with e
  subst e
  obtain ⟨ad', z2, e, -, hzb, hcb⟩ := hr8.int_at hBl
  injection e with e
  subst e
  obtain ⟨xp, hxp, rfl⟩ := nI_at hzp
  obtain ⟨xq, hxq, rfl⟩ := nI_at hzq
  obtain ⟨xb, hxb, rfl⟩ := nI_at hzb
  obtain ⟨hp1, hp2⟩ := HP.out.1 _ _ hxp
  obtain ⟨hq1, hq2⟩ := HP.out.1 _ _ hxq
  have hb1' := (HP.out.1 _ _ hxb).1
  have HPP := Lib.hid hp2
  have HQQ := Lib.hid hq2
  have hpq : (A = B ∧ xp = xq) ∨ (A ≠ B ∧ xp < xq) := by
    rcases hcase with ⟨h1, h2, h3⟩ | ⟨h1, h2, h3⟩
    · rw [h2] at hxp
      rw [h3, hxp] at hxq
      exact .inl ⟨h1, Option.some.inj hxq⟩
    · exact .inr ⟨h1, HP.out.2 _ _ _ _ h2 hxp hxq⟩
  have HC := Lib.hid hpq
  have HR := Lib.hid hr8
  clear hzp hzq hzb hxp hxq hxb hp2 hq2 hpq hcase hr8 HP
  have HWP := Lib.hid (fun W => where_any s hs xp hp1 W)
  have HWQ := Lib.hid (fun W => where_any s hs xq hq1 W)
  have HWB := Lib.hid (fun W => where_any s hs xb hb1' W)
  have hm0 : (0 : Int) ≤ (mn : Int) := by omega
  have hm1 : (mn : Int) < (n : Int) + 1 := by omega
  have hx0 : (0 : Int) ≤ (mx : Int) := by omega
  have hx1 : (mx : Int) < (n : Int) + 1 := by omega
  have hB0 : (0 : Int) ≤ (B : Int) := by omega
  have hB1 : (B : Int) < (n : Int) + 1 := by omega
  go_wp2_with fail
  refine (HWP.out _).mono ?_
  rintro e w9 ⟨f, hf, rfl, hb9⟩
  have hs9 := hb9.size
  have hw9 := hw8.trans (hb9.mono (by omega))
  have hcq9 := (hb9.cell (p := ad.add mx) (by rw [add_block]; omega)).trans hcq
  have hcb9 := (hb9.cell (p := ad.add B) (by rw [add_block]; omega)).trans hcb
  clear hb9 hcp hcq hcb HWP
  have HFP := Lib.hid hf
  have hl1 : 1 ≤ liN s.data.toList f := by unfold liN; omega
  have hc1 : 1 ≤ coN s.data.toList f xp := by unfold coN; omega
  obtain ⟨lp, hlp⟩ : ∃ lp, liN s.data.toList f = lp := ⟨_, rfl⟩
  obtain ⟨cp, hcp⟩ : ∃ cp, coN s.data.toList f xp = cp := ⟨_, rfl⟩
  rw [hlp] at hl1 ⊢
  rw [hcp] at hc1 ⊢
  have HLP := Lib.hid hlp
  have HCP := Lib.hid hcp
  have hcq9' := (World.cell?_alloc_lt w9 (Obj.cells #[Value.int IntKind.i64 (lp : Int), Value.int IntKind.i64 (cp : Int)] 26) (ad.add mx) (by rw [add_block]; omega)).trans hcq9
  have hbp : Blk (w9.alloc (Obj.cells #[Value.int IntKind.i64 (lp : Int), Value.int IntKind.i64 (cp : Int)] 26)) w9.heap.size 26 #[.int .i64 (lp : Int), .int .i64 (cp : Int)] := blk_at rfl
  clear hf hlp hcp
  go_wp2_with fail
  refine (HWQ.out _).mono ?_
  rintro e w10 ⟨g, hg, rfl, hb10⟩
  have hz9 : (w9.alloc (Obj.cells #[Value.int IntKind.i64 (lp : Int), Value.int IntKind.i64 (cp : Int)] 26)).heap.size = w9.heap.size + 1 := by simp
  have hs10 := hb10.size
  rw [hz9] at hs10
  have hw10 := (hw9.alloc (by omega) (Obj.cells #[Value.int IntKind.i64 (lp : Int), Value.int IntKind.i64 (cp : Int)] 26)).trans (hb10.mono (by omega))
  have hcb10 := (hb10.cell (p := ad.add B) (by rw [add_block]; omega)).trans ((World.cell?_alloc_lt w9 (Obj.cells #[Value.int IntKind.i64 (lp : Int), Value.int IntKind.i64 (cp : Int)] 26) (ad.add B) (by rw [add_block]; omega)).trans hcb9)
  have hbp10 := hbp.below hb10 (by omega)
  clear hb10 hcq9 hcq9' hcb9 HWQ hbp
  obtain ⟨lq, hlq⟩ : ∃ lq, liN s.data.toList g = lq := ⟨_, rfl⟩
  obtain ⟨cq, hcq⟩ : ∃ cq, coN s.data.toList g xq = cq := ⟨_, rfl⟩
  rw [hlq, hcq]
  have HREL : Hid ((A = B ∧ lp = lq ∧ cp = cq) ∨ (A ≠ B ∧ lp < lq) ∨ (A ≠ B ∧ lp = lq ∧ cp < cq)) := by
    show _ ∨ _
    rw [← HLP.out, ← HCP.out, ← hlq, ← hcq]
    rcases HC.out with ⟨h1, h2⟩ | ⟨h1, h2⟩
    · subst h2
      obtain rfl := frm_uniq HFP.out hg
      exact .inl ⟨h1, rfl, rfl⟩
    · rcases pos_lt h2 (by rw [HL.out]; exact hq1) HFP.out hg HPP.out HQQ.out with h | h
      · exact .inr (.inl ⟨h1, h⟩)
      · exact .inr (.inr ⟨h1, h⟩)
  clear hg HPP HQQ HC HFP HLP HCP hlq hcq
  have hsp := fun W b b' n n' => run_same_pos W b b' n n'
  have hcb10' := (World.cell?_alloc_lt w10 (Obj.cells #[Value.int IntKind.i64 (lq : Int), Value.int IntKind.i64 (cq : Int)] 26) (ad.add B) (by rw [add_block]; omega)).trans hcb10
  have hbq : Blk (w10.alloc (Obj.cells #[Value.int IntKind.i64 (lq : Int), Value.int IntKind.i64 (cq : Int)] 26)) w10.heap.size 26 #[.int .i64 (lq : Int), .int .i64 (cq : Int)] := blk_at rfl
  have hbp11 := hbp10.alloc (Obj.cells #[Value.int IntKind.i64 (lq : Int), Value.int IntKind.i64 (cq : Int)] 26)
  have p0 := hbp11.cell 0
  have p1 := hbp11.cell 1
  have q0 := hbq.cell 0
  have q1 := hbq.cell 1
  have hz10 : (w10.alloc (Obj.cells #[Value.int IntKind.i64 (lq : Int), Value.int IntKind.i64 (cq : Int)] 26)).heap.size = w10.heap.size + 1 := by simp
  have hw11 := hw10.alloc (by omega) (Obj.cells #[Value.int IntKind.i64 (lq : Int), Value.int IntKind.i64 (cq : Int)] 26)
  clear hbp10
  have hxb : xb = 0 ∨ (0 < xb ∧ bt s.data.toList (xb - 1) ≠ 10) ∨ (0 < xb ∧ bt s.data.toList (xb - 1) = 10) := by omega
  rcases hxb with rfl | ⟨hx, hne⟩ | ⟨hx, hne⟩
  · rcases HREL.out with ⟨h1, h2, h3⟩ | ⟨h1, h2⟩ | ⟨h1, h2, h3⟩
    · subst h1 h2 h3
      go_wp2
      go_ret
      exact ⟨rfl, hw11⟩
    · skip
      have e1 : ((A : Int) == (B : Int)) = false := by rw [beq_eq_false_iff_ne]; omega
      have e0 : ((A : Int) != (B : Int)) = true := by rw [bne_iff_ne]; omega
      have e2 : (lp : Int) < (lq : Int) := by omega
      go_wp2
      go_ret
      exact ⟨rfl, hw11⟩
    · skip
      have e1 : ((A : Int) == (B : Int)) = false := by rw [beq_eq_false_iff_ne]; omega
      have e0 : ((A : Int) != (B : Int)) = true := by rw [bne_iff_ne]; omega
      have e2 : (cp : Int) < (cq : Int) := by omega
      subst h2
      go_wp2
      go_ret
      exact ⟨rfl, hw11⟩
  · obtain ⟨k, rfl⟩ : ∃ k, xb = k + 1 := ⟨xb - 1, by omega⟩
    have hb := bt_of (show k < s.size by omega)
    rw [Nat.add_sub_cancel] at hne
    have hbq : ((bt s.data.toList k : Int) == 10) = false := by rw [beq_eq_false_iff_ne]; omega
    rcases HREL.out with ⟨h1, h2, h3⟩ | ⟨h1, h2⟩ | ⟨h1, h2, h3⟩
    · subst h1 h2 h3
      go_wp2
      go_ret
      exact ⟨rfl, hw11⟩
    · skip
      have e1 : ((A : Int) == (B : Int)) = false := by rw [beq_eq_false_iff_ne]; omega
      have e0 : ((A : Int) != (B : Int)) = true := by rw [bne_iff_ne]; omega
      have e2 : (lp : Int) < (lq : Int) := by omega
      go_wp2
      go_ret
      exact ⟨rfl, hw11⟩
    · skip
      have e1 : ((A : Int) == (B : Int)) = false := by rw [beq_eq_false_iff_ne]; omega
      have e0 : ((A : Int) != (B : Int)) = true := by rw [bne_iff_ne]; omega
      have e2 : (cp : Int) < (cq : Int) := by omega
      subst h2
      go_wp2
      go_ret
      exact ⟨rfl, hw11⟩
  · obtain ⟨k, rfl⟩ : ∃ k, xb = k + 1 := ⟨xb - 1, by omega⟩
    have hb := bt_of (show k < s.size by omega)
    rw [Nat.add_sub_cancel] at hne
    have hg := get_byte (show k < s.size by omega)
    have h10' : s[k] = 10 := by
      refine UInt8.toNat_inj.1 ?_
      rw [hb, hne]
      rfl
    have HG : Hid (s.data.toList[k]? = some 10) := hg.trans (by rw [h10'])
    clear hg h10'
    rw [hne] at hb
    go_wp2_with fail
    refine (HWB.out _).mono ?_
    rintro e w12 ⟨r, hr, rfl, hb12⟩
    have hco := co_nl (by omega) hr HG.out
    rw [hco, show ((1 : Nat) : Int) = 1 from rfl]
    have hs12 := hb12.size
    rw [hz10] at hs12
    have hw12 := hw11.trans (hb12.mono (by omega))
    have hbp12 := (hbp11.below hb12 (by omega)).alloc (Obj.cells #[Value.int IntKind.i64 (liN s.data.toList r : Int), Value.int IntKind.i64 1] 26)
    have hbq12 := (hbq.below hb12 (by omega)).alloc (Obj.cells #[Value.int IntKind.i64 (liN s.data.toList r : Int), Value.int IntKind.i64 1] 26)
    generalize liN s.data.toList r = lr at hbp12 hbq12 ⊢
    have hbr : Blk (w12.alloc (Obj.cells #[Value.int IntKind.i64 (lr : Int), Value.int IntKind.i64 1] 26)) w12.heap.size 26 #[.int .i64 (lr : Int), .int .i64 1] := blk_at rfl
    have hw13 := hw12.alloc (by omega) (Obj.cells #[Value.int IntKind.i64 (lr : Int), Value.int IntKind.i64 1] 26)
    have p2 := hbp12.cell 0
    have p3 := hbp12.cell 1
    have q2 := hbq12.cell 0
    have q3 := hbq12.cell 1
    have r0 := hbr.cell 0
    have r1 := hbr.cell 1
    clear p0 p1 q0 q1 hr hco hb12 hbp11
    rcases HREL.out with ⟨h1, h2, h3⟩ | ⟨h1, h2⟩ | ⟨h1, h2, h3⟩
    · subst h1 h2 h3
      go_wp2
      go_ret
      exact ⟨rfl, hw13⟩
    · skip
      have e1 : ((A : Int) == (B : Int)) = false := by rw [beq_eq_false_iff_ne]; omega
      have e0 : ((A : Int) != (B : Int)) = true := by rw [bne_iff_ne]; omega
      have e2 : (lp : Int) < (lq : Int) := by omega
      go_wp2
      go_ret
      exact ⟨rfl, hw13⟩
    · skip
      have e1 : ((A : Int) == (B : Int)) = false := by rw [beq_eq_false_iff_ne]; omega
      have e0 : ((A : Int) != (B : Int)) = true := by rw [bne_iff_ne]; omega
      have e2 : (cp : Int) < (cq : Int) := by omega
      subst h2
      go_wp2
      go_ret
      exact ⟨rfl, hw13⟩
end Go.Proofs.Ytmikpogmklindaa
