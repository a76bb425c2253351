/- (*maker).single: two that are one. -/
import Derived.Test.YtkmcnekjimobhaaJTopRoads27
import Derived.Test.YtkmcnekjimobhaaJTopRoads25
import Derived.Deep.DeepCutAuto
namespace Go.Proofs.Ytkmcnekjimobhaa
set_option maxHeartbeats 8000000
set_option maxRecDepth 100000
open Go.RowKit Go.Maps
def mkS (GA FA : Option Addr) (gn gcp fn fcp : Nat) (m : Bool) : Array Value := #[.slice GA gn gcp, .slice FA fn fcp, .bool m]
def SimQ (lo : Nat) (z : Ex) (mb : Nat) (mc : Array Value) (w : World) (r : Ending) (w' : World) : Prop :=
  (∃ cs, r = .returned (.agg cs.toArray) /\ ExF (fun b => lo <= b /\ b < w'.heap.size) w'.heap.size w' z cs) /\ w.grownBy w' (some mb) /\ Blk w' mb 138 mc
theorem grown_far_set {a w : World} {row : Option Nat} (h : a.grownBy w row) {rb : Nat} (hr : a.heap.size <= rb) (i : Nat) (u : Value) : a.grownBy (w.setCell ⟨rb, i, none⟩ u) row :=
  ⟨h.os, h.tape, h.output, by simpa [World.setCell] using h.size, fun k hk hne => (Below.heap_setCell w ⟨rb, i, none⟩ u k (by rintro rfl; exact absurd hr (Nat.not_le.2 hk))).trans (h.block k hk hne)⟩
theorem sim_end {S : Nat -> Prop} {lo hi rb mb : Nat} {z : Ex} {cs : List Value} {mc : Array Value} {w w5 : World} (hE : ExF S hi w5 z cs) (hS : ∀ b, S b -> lo <= b /\ b < w5.heap.size /\ b ≠ rb) (hh : hi <= w5.heap.size) (hg : w.grownBy w5 (some mb)) (hrb : w.heap.size <= rb) (hm : Blk w5 mb 138 mc) (hmr : mb ≠ rb) (u0 u1 u2 u3 u4 u5 u6 : Value) :
    SimQ lo z mb mc w (.returned (.agg cs.toArray)) (((((((w5.setCell ⟨rb, 0, none⟩ u0).setCell ⟨rb, 1, none⟩ u1).setCell ⟨rb, 2, none⟩ u2).setCell ⟨rb, 3, none⟩ u3).setCell ⟨rb, 4, none⟩ u4).setCell ⟨rb, 5, none⟩ u5).setCell ⟨rb, 6, none⟩ u6) := by
  refine ⟨⟨cs, rfl, ?_⟩, ?_, ?_⟩
  · rw [size_set7]
    exact (hE.set7 (k := rb) (fun hb => (hS _ hb).2.2 rfl) u0 u1 u2 u3 u4 u5 u6).mono (fun b hb => ⟨(hS b hb).1, (hS b hb).2.1⟩) hh
  · exact grown_far_set (grown_far_set (grown_far_set (grown_far_set (grown_far_set (grown_far_set (grown_far_set hg hrb _ _) hrb _ _) hrb _ _) hrb _ _) hrb _ _) hrb _ _) hrb _ _
  · exact ((((((hm.far (by exact hmr) _).far (by exact hmr) _).far (by exact hmr) _).far (by exact hmr) _).far (by exact hmr) _).far (by exact hmr) _).far (by exact hmr) _
theorem ssingle_any {lo mb gn gcp fn fcp : Nat} {GA FA A : Option Addr} {m : Bool} {k a b c d : Int} {t : ByteArray} {x : Ex} {xs : List Ex} {n cp : Nat} {w : World} (hE : ExF (fun b => lo <= b /\ b < w.heap.size) w.heap.size w (.mk k a b c d t (x :: xs)) (exCells k a b c d t A n cp))
    (hlo : mb < lo) (hm : Blk w mb 138 (mkS GA FA gn gcp fn fcp m)) (h9 : 9 <= k) (h11 : k <= 11) :
    Calls Try.prog 98 #[.pointer (some ⟨mb, 0, none⟩), .agg (exCells k a b c d t A n cp).toArray] w (SimQ lo (singleS (.mk k a b c d t (x :: xs))).1 mb (mkS GA FA gn gcp fn fcp (m || (singleS (.mk k a b c d t (x :: xs))).2)) w) := by
  obtain ⟨ad, k2, a2, b2, c2, d2, t2, ks2, A2, cp2, rfl, hab, hSb, hej, hx, hS⟩ := hE.kid (j := 0) (by simp)
  have hlen := hE.is.len
  obtain ⟨rfl, _, hncp, hcpm, _⟩ := hlen
  simp only [List.getElem?_cons_zero, Option.some.injEq] at hej
  subst hej
  have HSI1 : Hid (∀ z r W', singleS (.mk k a b c d t (.mk k2 a2 b2 c2 d2 t2 ks2 :: xs)) = (z, true) -> SimQ lo z mb (mkS GA FA gn gcp fn fcp true) w r W' -> SimQ lo (singleS (.mk k a b c d t (.mk k2 a2 b2 c2 d2 t2 ks2 :: xs))).1 mb (mkS GA FA gn gcp fn fcp (m || (singleS (.mk k a b c d t (.mk k2 a2 b2 c2 d2 t2 ks2 :: xs))).2)) w r W') := fun z r W' h1 h2 => by rw [h1, Bool.or_true]; exact h2
  have HSI0 : Hid (∀ z r W', singleS (.mk k a b c d t (.mk k2 a2 b2 c2 d2 t2 ks2 :: xs)) = (z, false) -> SimQ lo z mb (mkS GA FA gn gcp fn fcp m) w r W' -> SimQ lo (singleS (.mk k a b c d t (.mk k2 a2 b2 c2 d2 t2 ks2 :: xs))).1 mb (mkS GA FA gn gcp fn fcp (m || (singleS (.mk k a b c d t (.mk k2 a2 b2 c2 d2 t2 ks2 :: xs))).2)) w r W') := fun z r W' h1 h2 => by rw [h1, Bool.or_false]; exact h2
  generalize SimQ lo (singleS (.mk k a b c d t (.mk k2 a2 b2 c2 d2 t2 ks2 :: xs))).1 mb (mkS GA FA gn gcp fn fcp (m || (singleS (.mk k a b c d t (.mk k2 a2 b2 c2 d2 t2 ks2 :: xs))).2)) w = Q at HSI1 HSI0 ⊢
  have y0 := hS.c0
  have y1 := hS.c1
  have y2 := hS.c2
  have y3 := hS.c3
  have y4 := hS.c4
  have y5 := hS.c5
  have y6 := hS.c6
  simp only [Nat.zero_mul] at y0 y1 y2 y3 y4 y5 y6
  have e0 : ad.add 0 = ad := rfl
  rw [e0] at y0 y1 y2 y3 y4 y5 y6
  have hlen0 : (0 : Int) < (((.mk k2 a2 b2 c2 d2 t2 ks2 :: xs : List Ex)).length : Int) := by simp only [List.length_cons]; omega
  generalize hnn : ((.mk k2 a2 b2 c2 d2 t2 ks2 :: xs : List Ex)).length = nn at hncp hlen0 ⊢
  unfold exCells at hE
  rw [hnn] at hE
  have HE := Lib.hid hE
  have HX := Lib.hid hx
  have HM := Lib.hid hm
  clear hS hx hE hm e0 hcpm
  unfold exCells
  go_enter Try.func98, Try.ntmps98
  go_upto_region 2 with fail
  have hk0 : KdC w.heap.size (w.heap.size + 1 + 1) #[.int .i64 k, .int .u64 a, .int .u64 b, .int .u64 c, .int .u64 d, .string t, .slice (some ad) nn cp] #[.int .i64 k2, .int .u64 a2, .int .u64 b2, .int .u64 c2, .int .u64 d2, .string t2, .slice A2 ks2.length cp2] (((w.alloc (.cells #[.int .i64 k, .int .u64 a, .int .u64 b, .int .u64 c, .int .u64 d, .string t, .slice (some ad) nn cp] 37)).alloc (.cells #[.int .i64 0, .int .u64 0, .int .u64 0, .int .u64 0, .int .u64 0, .string ⟨#[]⟩, .slice none 0 0] 37)).alloc (.cells #[.int .i64 k2, .int .u64 a2, .int .u64 b2, .int .u64 c2, .int .u64 d2, .string t2, .slice A2 ks2.length cp2] 37)) := ⟨((blk_at rfl).alloc _).alloc _, blk_at (by simp)⟩
  have hrs0 : Blk (((w.alloc (.cells #[.int .i64 k, .int .u64 a, .int .u64 b, .int .u64 c, .int .u64 d, .string t, .slice (some ad) nn cp] 37)).alloc (.cells #[.int .i64 0, .int .u64 0, .int .u64 0, .int .u64 0, .int .u64 0, .string ⟨#[]⟩, .slice none 0 0] 37)).alloc (.cells #[.int .i64 k2, .int .u64 a2, .int .u64 b2, .int .u64 c2, .int .u64 d2, .string t2, .slice A2 ks2.length cp2] 37)) (w.heap.size + 1) 37 #[.int .i64 0, .int .u64 0, .int .u64 0, .int .u64 0, .int .u64 0, .string ⟨#[]⟩, .slice none 0 0] := (blk_at (by simp)).alloc _
  have hb0 : Below w.heap.size w (((w.alloc (.cells #[.int .i64 k, .int .u64 a, .int .u64 b, .int .u64 c, .int .u64 d, .string t, .slice (some ad) nn cp] 37)).alloc (.cells #[.int .i64 0, .int .u64 0, .int .u64 0, .int .u64 0, .int .u64 0, .string ⟨#[]⟩, .slice none 0 0] 37)).alloc (.cells #[.int .i64 k2, .int .u64 a2, .int .u64 b2, .int .u64 c2, .int .u64 d2, .string t2, .slice A2 ks2.length cp2] 37)) := bl
  generalize (((w.alloc (.cells #[.int .i64 k, .int .u64 a, .int .u64 b, .int .u64 c, .int .u64 d, .string t, .slice (some ad) nn cp] 37)).alloc (.cells #[.int .i64 0, .int .u64 0, .int .u64 0, .int .u64 0, .int .u64 0, .string ⟨#[]⟩, .slice none 0 0] 37)).alloc (.cells #[.int .i64 k2, .int .u64 a2, .int .u64 b2, .int .u64 c2, .int .u64 d2, .string t2, .slice A2 ks2.length cp2] 37)) = wA at hk0 hrs0 hb0 ⊢
  refine wp_region_l (KdC w.heap.size (w.heap.size + 1 + 1) #[.int .i64 k, .int .u64 a, .int .u64 b, .int .u64 c, .int .u64 d, .string t, .slice (some ad) nn cp] #[.int .i64 k2, .int .u64 a2, .int .u64 b2, .int .u64 c2, .int .u64 d2, .string t2, .slice A2 ks2.length cp2]) (fun _ => false) (by kernel_rfl) ?_
  have hC := hk0.below (Below.refl _ _).drew
  have hrs := hrs0.below (Below.refl _ _).drew hrs0.lt
  have hb := hb0.drew
  generalize wA.drew = wd at hC hrs hb ⊢
  clear hk0 hrs0 hb0
  apply L.rd (i := 0) rfl (by kernel_rfl) hC rfl
  · intro W hW
    skip
    unfold readW
    go_simp
    first | rfl | exact ⟨rfl, rfl⟩
  first | simp only [Act.put, p1, p2, p3] | skip
  apply L.rd (i := 1) rfl (by kernel_rfl) hC rfl
  · intro W hW
    have n0 := hW.out.cell 0
    unfold readW
    go_simp
    first | rfl | exact ⟨rfl, rfl⟩
  first | simp only [Act.put, p1, p2, p3] | skip
  apply L.rd (i := 2) rfl (by kernel_rfl) hC rfl
  · intro W hW
    skip
    unfold readW
    go_simp
    first | rfl | exact ⟨rfl, rfl⟩
  first | simp only [Act.put, p1, p2, p3] | skip
  apply L.rd (i := 3) rfl (by kernel_rfl) hC rfl
  · intro W hW
    have n0 := hW.kid.cell 0
    unfold readW
    go_simp
    first | rfl | exact ⟨rfl, rfl⟩
  first | simp only [Act.put, p1, p2, p3] | skip
  apply L.rd (i := 4) rfl (by kernel_rfl) hC rfl
  · intro W hW
    skip
    unfold readW
    go_simp
    first | rfl | exact ⟨rfl, rfl⟩
  first | simp only [Act.put, p1, p2, p3] | skip
  apply L.rd (i := 5) rfl (by kernel_rfl) hC rfl
  · intro W hW
    skip
    unfold readW
    go_simp
    first | rfl | exact ⟨rfl, rfl⟩
  first | simp only [Act.put, p1, p2, p3] | skip
  refine L.done (by kernel_rfl) ?_
  have hgr : w.grownBy wd (some mb) := grown_of_below hb _
  have hsw := hb.size
  have hmb := HM.out.lt
  have hmk := HM.out.below hb hmb
  have hed := HE.out.keep (W' := wd) fun p hp => hb.cell hp.2
  have hxd := HX.out.keep (W' := wd) fun p hp => hb.cell hp.2
  have hkb := hC.kid
  have hwz := hkb.lt
  have heb := hC.out
  clear HE HX HM hb hC y0 y1 y2 y3 y4 y5 y6 hab hSb
  generalize (some ad : Option Addr) = AA at heb hed ⊢
  have hk3 : k = 11 \/ k = 10 \/ k = 9 := by omega
  rcases hk3 with rfl | rfl | rfl
  · by_cases h11 : k2 = 11
    · subst h11
      have hz : singleS (.mk 11 a b c d t (.mk 11 a2 b2 c2 d2 t2 ks2 :: xs)) = (ofN 10 ks2, true) := by rw [single_two]; simp
      have hsm : Blk (wd.setCell ⟨mb, 2, none⟩ (.bool true)) mb 138 (mkS GA FA gn gcp fn fcp true) := hmk.set_ 2 _
      have hf2 := hmk.frozen 2
      have hm2 : wd.cell? ⟨mb, 2, none⟩ = some (.bool m) := hmk.cell 2
      have hgs : w.grownBy (wd.setCell ⟨mb, 2, none⟩ (.bool true)) (some mb) := grown_set hgr _
      have hrs2 := hrs.far (p := ⟨mb, 2, none⟩) (by simp; omega) (.bool true)
      have hkb2 := hkb.far (p := ⟨mb, 2, none⟩) (by simp; omega) (.bool true)
      have hx2 := hxd.set (k := mb) (fun hb => by have := hb.1; omega) 2 (.bool true)
      have hsz2 : (wd.setCell ⟨mb, 2, none⟩ (.bool true)).heap.size = wd.heap.size := by simp [World.setCell]
      clear heb
      go_upto_region 5 with fail
      generalize (wd.setCell ⟨mb, 2, none⟩ (.bool true)) = w5 at hsm hgs hrs2 hkb2 hx2 hsz2 ⊢
      clear hf2 hm2 hmk hgr hrs hkb hxd
      have x6 : w5.cell? ⟨w.heap.size + 1 + 1, 6, none⟩ = some (.slice A2 ks2.length cp2) := hkb2.cell 6
      have hsi := fun u0 u1 u2 u3 u4 u5 u6 => HSI1.out _ _ _ hz (sim_end (S := fun b => lo <= b /\ b < w.heap.size) (rb := w.heap.size + 1) (hi := w.heap.size) (cs := exCells 10 0 0 0 0 ⟨#[]⟩ A2 ks2.length cp2) (hx2.re 10 0 0 0 0 (t' := ⟨#[]⟩) (by decide)) (fun b hb => ⟨hb.1, by have := hb.2; omega, by have := hb.2; omega⟩) (by omega) hgs (by omega) hsm (by omega) u0 u1 u2 u3 u4 u5 u6)
      obtain ⟨yz0, yz1, yz2, yz3, yz4, yz5, yz6, yf0, yf1, yf2, yf3, yf4, yf5, yf6, ye0, ye1, ye2, ye3, ye4, ye5, ye6⟩ := st7 hrs2 (.int .i64 10) (.int .u64 0) (.int .u64 0) (.int .u64 0) (.int .u64 0) (.string ⟨#[]⟩) (.slice A2 ks2.length cp2)
      have HSJ := Lib.hid hsi
      clear hsi
      go_wp2
      exact bodyPost_ret (v := .agg #[.int .i64 10, .int .u64 0, .int .u64 0, .int .u64 0, .int .u64 0, .string ⟨#[]⟩, .slice A2 ks2.length cp2]) (by simp [results, Try.results98, go_sem, ye0, ye1, ye2, ye3, ye4, ye5, ye6]) rfl (HSJ.out _ _ _ _ _ _ _)
    by_cases h10 : k2 = 10
    · subst h10
      have hz : singleS (.mk 11 a b c d t (.mk 10 a2 b2 c2 d2 t2 ks2 :: xs)) = (ofN 11 ks2, true) := by rw [single_two]; simp
      have hsm : Blk (wd.setCell ⟨mb, 2, none⟩ (.bool true)) mb 138 (mkS GA FA gn gcp fn fcp true) := hmk.set_ 2 _
      have hf2 := hmk.frozen 2
      have hm2 : wd.cell? ⟨mb, 2, none⟩ = some (.bool m) := hmk.cell 2
      have hgs : w.grownBy (wd.setCell ⟨mb, 2, none⟩ (.bool true)) (some mb) := grown_set hgr _
      have hrs2 := hrs.far (p := ⟨mb, 2, none⟩) (by simp; omega) (.bool true)
      have hkb2 := hkb.far (p := ⟨mb, 2, none⟩) (by simp; omega) (.bool true)
      have hx2 := hxd.set (k := mb) (fun hb => by have := hb.1; omega) 2 (.bool true)
      have hsz2 : (wd.setCell ⟨mb, 2, none⟩ (.bool true)).heap.size = wd.heap.size := by simp [World.setCell]
      clear heb
      go_upto_region 8 with fail
      generalize (wd.setCell ⟨mb, 2, none⟩ (.bool true)) = w5 at hsm hgs hrs2 hkb2 hx2 hsz2 ⊢
      clear hf2 hm2 hmk hgr hrs hkb hxd
      have x6 : w5.cell? ⟨w.heap.size + 1 + 1, 6, none⟩ = some (.slice A2 ks2.length cp2) := hkb2.cell 6
      have hsi := fun u0 u1 u2 u3 u4 u5 u6 => HSI1.out _ _ _ hz (sim_end (S := fun b => lo <= b /\ b < w.heap.size) (rb := w.heap.size + 1) (hi := w.heap.size) (cs := exCells 11 0 0 0 0 ⟨#[]⟩ A2 ks2.length cp2) (hx2.re 11 0 0 0 0 (t' := ⟨#[]⟩) (by decide)) (fun b hb => ⟨hb.1, by have := hb.2; omega, by have := hb.2; omega⟩) (by omega) hgs (by omega) hsm (by omega) u0 u1 u2 u3 u4 u5 u6)
      obtain ⟨yz0, yz1, yz2, yz3, yz4, yz5, yz6, yf0, yf1, yf2, yf3, yf4, yf5, yf6, ye0, ye1, ye2, ye3, ye4, ye5, ye6⟩ := st7 hrs2 (.int .i64 11) (.int .u64 0) (.int .u64 0) (.int .u64 0) (.int .u64 0) (.string ⟨#[]⟩) (.slice A2 ks2.length cp2)
      have HSJ := Lib.hid hsi
      clear hsi
      go_wp2
      exact bodyPost_ret (v := .agg #[.int .i64 11, .int .u64 0, .int .u64 0, .int .u64 0, .int .u64 0, .string ⟨#[]⟩, .slice A2 ks2.length cp2]) (by simp [results, Try.results98, go_sem, ye0, ye1, ye2, ye3, ye4, ye5, ye6]) rfl (HSJ.out _ _ _ _ _ _ _)
    have hz : singleS (.mk 11 a b c d t (.mk k2 a2 b2 c2 d2 t2 ks2 :: xs)) = (.mk 11 a b c d t (.mk k2 a2 b2 c2 d2 t2 ks2 :: xs), false) := by rw [single_two]; simp [h11, h10]
    have b11 : (k2 == 11) = false := by rw [beq_eq_false_iff_ne]; exact h11
    have b10 : (k2 == 10) = false := by rw [beq_eq_false_iff_ne]; exact h10
    go_upto_region 16 with fail
    have x0 : wd.cell? ⟨w.heap.size, 0, none⟩ = some (.int .i64 11) := heb.cell 0; have x1 : wd.cell? ⟨w.heap.size, 1, none⟩ = some (.int .u64 a) := heb.cell 1; have x2 : wd.cell? ⟨w.heap.size, 2, none⟩ = some (.int .u64 b) := heb.cell 2; have x3 : wd.cell? ⟨w.heap.size, 3, none⟩ = some (.int .u64 c) := heb.cell 3; have x4 : wd.cell? ⟨w.heap.size, 4, none⟩ = some (.int .u64 d) := heb.cell 4; have x5 : wd.cell? ⟨w.heap.size, 5, none⟩ = some (.string t) := heb.cell 5; have x6 : wd.cell? ⟨w.heap.size, 6, none⟩ = some (.slice AA nn cp) := heb.cell 6
    have hsi := fun u0 u1 u2 u3 u4 u5 u6 => HSI0.out _ _ _ hz (sim_end (S := fun b => lo <= b /\ b < w.heap.size) (rb := w.heap.size + 1) (hi := w.heap.size) (cs := exCells 11 a b c d t AA nn cp) hed (fun b hb => ⟨hb.1, by have := hb.2; omega, by have := hb.2; omega⟩) (by omega) hgr (by omega) hmk (by omega) u0 u1 u2 u3 u4 u5 u6)
    obtain ⟨yz0, yz1, yz2, yz3, yz4, yz5, yz6, yf0, yf1, yf2, yf3, yf4, yf5, yf6, ye0, ye1, ye2, ye3, ye4, ye5, ye6⟩ := st7 hrs (.int .i64 11) (.int .u64 a) (.int .u64 b) (.int .u64 c) (.int .u64 d) (.string t) (.slice AA nn cp)
    have HSJ := Lib.hid hsi
    clear hsi
    go_wp2
    exact bodyPost_ret (v := .agg #[.int .i64 11, .int .u64 a, .int .u64 b, .int .u64 c, .int .u64 d, .string t, .slice AA nn cp]) (by simp [results, Try.results98, go_sem, ye0, ye1, ye2, ye3, ye4, ye5, ye6]) rfl (HSJ.out _ _ _ _ _ _ _)
  · by_cases h10 : k2 = 10
    · subst h10
      have hz : singleS (.mk 10 a b c d t (.mk 10 a2 b2 c2 d2 t2 ks2 :: xs)) = (.mk 10 a2 b2 c2 d2 t2 ks2, true) := by rw [single_two]; simp
      have hsm : Blk (wd.setCell ⟨mb, 2, none⟩ (.bool true)) mb 138 (mkS GA FA gn gcp fn fcp true) := hmk.set_ 2 _
      have hf2 := hmk.frozen 2
      have hm2 : wd.cell? ⟨mb, 2, none⟩ = some (.bool m) := hmk.cell 2
      have hgs : w.grownBy (wd.setCell ⟨mb, 2, none⟩ (.bool true)) (some mb) := grown_set hgr _
      have hrs2 := hrs.far (p := ⟨mb, 2, none⟩) (by simp; omega) (.bool true)
      have hkb2 := hkb.far (p := ⟨mb, 2, none⟩) (by simp; omega) (.bool true)
      have hx2 := hxd.set (k := mb) (fun hb => by have := hb.1; omega) 2 (.bool true)
      have hsz2 : (wd.setCell ⟨mb, 2, none⟩ (.bool true)).heap.size = wd.heap.size := by simp [World.setCell]
      clear heb
      go_upto_region 12 with fail
      generalize (wd.setCell ⟨mb, 2, none⟩ (.bool true)) = w5 at hsm hgs hrs2 hkb2 hx2 hsz2 ⊢
      clear hf2 hm2 hmk hgr hrs hkb hxd
      have x0 : w5.cell? ⟨w.heap.size + 1 + 1, 0, none⟩ = some (.int .i64 10) := hkb2.cell 0; have x1 : w5.cell? ⟨w.heap.size + 1 + 1, 1, none⟩ = some (.int .u64 a2) := hkb2.cell 1; have x2 : w5.cell? ⟨w.heap.size + 1 + 1, 2, none⟩ = some (.int .u64 b2) := hkb2.cell 2; have x3 : w5.cell? ⟨w.heap.size + 1 + 1, 3, none⟩ = some (.int .u64 c2) := hkb2.cell 3; have x4 : w5.cell? ⟨w.heap.size + 1 + 1, 4, none⟩ = some (.int .u64 d2) := hkb2.cell 4; have x5 : w5.cell? ⟨w.heap.size + 1 + 1, 5, none⟩ = some (.string t2) := hkb2.cell 5; have x6 : w5.cell? ⟨w.heap.size + 1 + 1, 6, none⟩ = some (.slice A2 ks2.length cp2) := hkb2.cell 6
      have hsi := fun u0 u1 u2 u3 u4 u5 u6 => HSI1.out _ _ _ hz (sim_end (S := fun b => lo <= b /\ b < w.heap.size) (rb := w.heap.size + 1) (hi := w.heap.size) (cs := exCells 10 a2 b2 c2 d2 t2 A2 ks2.length cp2) hx2 (fun b hb => ⟨hb.1, by have := hb.2; omega, by have := hb.2; omega⟩) (by omega) hgs (by omega) hsm (by omega) u0 u1 u2 u3 u4 u5 u6)
      obtain ⟨yz0, yz1, yz2, yz3, yz4, yz5, yz6, yf0, yf1, yf2, yf3, yf4, yf5, yf6, ye0, ye1, ye2, ye3, ye4, ye5, ye6⟩ := st7 hrs2 (.int .i64 10) (.int .u64 a2) (.int .u64 b2) (.int .u64 c2) (.int .u64 d2) (.string t2) (.slice A2 ks2.length cp2)
      have HSJ := Lib.hid hsi
      clear hsi
      go_wp2
      exact bodyPost_ret (v := .agg #[.int .i64 10, .int .u64 a2, .int .u64 b2, .int .u64 c2, .int .u64 d2, .string t2, .slice A2 ks2.length cp2]) (by simp [results, Try.results98, go_sem, ye0, ye1, ye2, ye3, ye4, ye5, ye6]) rfl (HSJ.out _ _ _ _ _ _ _)
    by_cases h11 : k2 = 11
    · subst h11
      have hz : singleS (.mk 10 a b c d t (.mk 11 a2 b2 c2 d2 t2 ks2 :: xs)) = (.mk 11 a2 b2 c2 d2 t2 ks2, true) := by rw [single_two]; simp
      have hsm : Blk (wd.setCell ⟨mb, 2, none⟩ (.bool true)) mb 138 (mkS GA FA gn gcp fn fcp true) := hmk.set_ 2 _
      have hf2 := hmk.frozen 2
      have hm2 : wd.cell? ⟨mb, 2, none⟩ = some (.bool m) := hmk.cell 2
      have hgs : w.grownBy (wd.setCell ⟨mb, 2, none⟩ (.bool true)) (some mb) := grown_set hgr _
      have hrs2 := hrs.far (p := ⟨mb, 2, none⟩) (by simp; omega) (.bool true)
      have hkb2 := hkb.far (p := ⟨mb, 2, none⟩) (by simp; omega) (.bool true)
      have hx2 := hxd.set (k := mb) (fun hb => by have := hb.1; omega) 2 (.bool true)
      have hsz2 : (wd.setCell ⟨mb, 2, none⟩ (.bool true)).heap.size = wd.heap.size := by simp [World.setCell]
      clear heb
      go_upto_region 12 with fail
      generalize (wd.setCell ⟨mb, 2, none⟩ (.bool true)) = w5 at hsm hgs hrs2 hkb2 hx2 hsz2 ⊢
      clear hf2 hm2 hmk hgr hrs hkb hxd
      have x0 : w5.cell? ⟨w.heap.size + 1 + 1, 0, none⟩ = some (.int .i64 11) := hkb2.cell 0; have x1 : w5.cell? ⟨w.heap.size + 1 + 1, 1, none⟩ = some (.int .u64 a2) := hkb2.cell 1; have x2 : w5.cell? ⟨w.heap.size + 1 + 1, 2, none⟩ = some (.int .u64 b2) := hkb2.cell 2; have x3 : w5.cell? ⟨w.heap.size + 1 + 1, 3, none⟩ = some (.int .u64 c2) := hkb2.cell 3; have x4 : w5.cell? ⟨w.heap.size + 1 + 1, 4, none⟩ = some (.int .u64 d2) := hkb2.cell 4; have x5 : w5.cell? ⟨w.heap.size + 1 + 1, 5, none⟩ = some (.string t2) := hkb2.cell 5; have x6 : w5.cell? ⟨w.heap.size + 1 + 1, 6, none⟩ = some (.slice A2 ks2.length cp2) := hkb2.cell 6
      have hsi := fun u0 u1 u2 u3 u4 u5 u6 => HSI1.out _ _ _ hz (sim_end (S := fun b => lo <= b /\ b < w.heap.size) (rb := w.heap.size + 1) (hi := w.heap.size) (cs := exCells 11 a2 b2 c2 d2 t2 A2 ks2.length cp2) hx2 (fun b hb => ⟨hb.1, by have := hb.2; omega, by have := hb.2; omega⟩) (by omega) hgs (by omega) hsm (by omega) u0 u1 u2 u3 u4 u5 u6)
      obtain ⟨yz0, yz1, yz2, yz3, yz4, yz5, yz6, yf0, yf1, yf2, yf3, yf4, yf5, yf6, ye0, ye1, ye2, ye3, ye4, ye5, ye6⟩ := st7 hrs2 (.int .i64 11) (.int .u64 a2) (.int .u64 b2) (.int .u64 c2) (.int .u64 d2) (.string t2) (.slice A2 ks2.length cp2)
      have HSJ := Lib.hid hsi
      clear hsi
      go_wp2
      exact bodyPost_ret (v := .agg #[.int .i64 11, .int .u64 a2, .int .u64 b2, .int .u64 c2, .int .u64 d2, .string t2, .slice A2 ks2.length cp2]) (by simp [results, Try.results98, go_sem, ye0, ye1, ye2, ye3, ye4, ye5, ye6]) rfl (HSJ.out _ _ _ _ _ _ _)
    have hz : singleS (.mk 10 a b c d t (.mk k2 a2 b2 c2 d2 t2 ks2 :: xs)) = (.mk 10 a b c d t (.mk k2 a2 b2 c2 d2 t2 ks2 :: xs), false) := by rw [single_two]; simp [h10, h11]
    have b10 : (k2 == 10) = false := by rw [beq_eq_false_iff_ne]; exact h10
    have b11 : (k2 == 11) = false := by rw [beq_eq_false_iff_ne]; exact h11
    go_upto_region 16 with fail
    have x0 : wd.cell? ⟨w.heap.size, 0, none⟩ = some (.int .i64 10) := heb.cell 0; have x1 : wd.cell? ⟨w.heap.size, 1, none⟩ = some (.int .u64 a) := heb.cell 1; have x2 : wd.cell? ⟨w.heap.size, 2, none⟩ = some (.int .u64 b) := heb.cell 2; have x3 : wd.cell? ⟨w.heap.size, 3, none⟩ = some (.int .u64 c) := heb.cell 3; have x4 : wd.cell? ⟨w.heap.size, 4, none⟩ = some (.int .u64 d) := heb.cell 4; have x5 : wd.cell? ⟨w.heap.size, 5, none⟩ = some (.string t) := heb.cell 5; have x6 : wd.cell? ⟨w.heap.size, 6, none⟩ = some (.slice AA nn cp) := heb.cell 6
    have hsi := fun u0 u1 u2 u3 u4 u5 u6 => HSI0.out _ _ _ hz (sim_end (S := fun b => lo <= b /\ b < w.heap.size) (rb := w.heap.size + 1) (hi := w.heap.size) (cs := exCells 10 a b c d t AA nn cp) hed (fun b hb => ⟨hb.1, by have := hb.2; omega, by have := hb.2; omega⟩) (by omega) hgr (by omega) hmk (by omega) u0 u1 u2 u3 u4 u5 u6)
    obtain ⟨yz0, yz1, yz2, yz3, yz4, yz5, yz6, yf0, yf1, yf2, yf3, yf4, yf5, yf6, ye0, ye1, ye2, ye3, ye4, ye5, ye6⟩ := st7 hrs (.int .i64 10) (.int .u64 a) (.int .u64 b) (.int .u64 c) (.int .u64 d) (.string t) (.slice AA nn cp)
    have HSJ := Lib.hid hsi
    clear hsi
    go_wp2
    exact bodyPost_ret (v := .agg #[.int .i64 10, .int .u64 a, .int .u64 b, .int .u64 c, .int .u64 d, .string t, .slice AA nn cp]) (by simp [results, Try.results98, go_sem, ye0, ye1, ye2, ye3, ye4, ye5, ye6]) rfl (HSJ.out _ _ _ _ _ _ _)
  · by_cases h9 : k2 = 9
    · subst h9
      have hz : singleS (.mk 9 a b c d t (.mk 9 a2 b2 c2 d2 t2 ks2 :: xs)) = (.mk 9 a2 b2 c2 d2 t2 ks2, true) := by rw [single_two]; simp
      have hsm : Blk (wd.setCell ⟨mb, 2, none⟩ (.bool true)) mb 138 (mkS GA FA gn gcp fn fcp true) := hmk.set_ 2 _
      have hf2 := hmk.frozen 2
      have hm2 : wd.cell? ⟨mb, 2, none⟩ = some (.bool m) := hmk.cell 2
      have hgs : w.grownBy (wd.setCell ⟨mb, 2, none⟩ (.bool true)) (some mb) := grown_set hgr _
      have hrs2 := hrs.far (p := ⟨mb, 2, none⟩) (by simp; omega) (.bool true)
      have hkb2 := hkb.far (p := ⟨mb, 2, none⟩) (by simp; omega) (.bool true)
      have hx2 := hxd.set (k := mb) (fun hb => by have := hb.1; omega) 2 (.bool true)
      have hsz2 : (wd.setCell ⟨mb, 2, none⟩ (.bool true)).heap.size = wd.heap.size := by simp [World.setCell]
      clear heb
      go_upto_region 12 with fail
      generalize (wd.setCell ⟨mb, 2, none⟩ (.bool true)) = w5 at hsm hgs hrs2 hkb2 hx2 hsz2 ⊢
      clear hf2 hm2 hmk hgr hrs hkb hxd
      have x0 : w5.cell? ⟨w.heap.size + 1 + 1, 0, none⟩ = some (.int .i64 9) := hkb2.cell 0; have x1 : w5.cell? ⟨w.heap.size + 1 + 1, 1, none⟩ = some (.int .u64 a2) := hkb2.cell 1; have x2 : w5.cell? ⟨w.heap.size + 1 + 1, 2, none⟩ = some (.int .u64 b2) := hkb2.cell 2; have x3 : w5.cell? ⟨w.heap.size + 1 + 1, 3, none⟩ = some (.int .u64 c2) := hkb2.cell 3; have x4 : w5.cell? ⟨w.heap.size + 1 + 1, 4, none⟩ = some (.int .u64 d2) := hkb2.cell 4; have x5 : w5.cell? ⟨w.heap.size + 1 + 1, 5, none⟩ = some (.string t2) := hkb2.cell 5; have x6 : w5.cell? ⟨w.heap.size + 1 + 1, 6, none⟩ = some (.slice A2 ks2.length cp2) := hkb2.cell 6
      have hsi := fun u0 u1 u2 u3 u4 u5 u6 => HSI1.out _ _ _ hz (sim_end (S := fun b => lo <= b /\ b < w.heap.size) (rb := w.heap.size + 1) (hi := w.heap.size) (cs := exCells 9 a2 b2 c2 d2 t2 A2 ks2.length cp2) hx2 (fun b hb => ⟨hb.1, by have := hb.2; omega, by have := hb.2; omega⟩) (by omega) hgs (by omega) hsm (by omega) u0 u1 u2 u3 u4 u5 u6)
      obtain ⟨yz0, yz1, yz2, yz3, yz4, yz5, yz6, yf0, yf1, yf2, yf3, yf4, yf5, yf6, ye0, ye1, ye2, ye3, ye4, ye5, ye6⟩ := st7 hrs2 (.int .i64 9) (.int .u64 a2) (.int .u64 b2) (.int .u64 c2) (.int .u64 d2) (.string t2) (.slice A2 ks2.length cp2)
      have HSJ := Lib.hid hsi
      clear hsi
      go_wp2
      exact bodyPost_ret (v := .agg #[.int .i64 9, .int .u64 a2, .int .u64 b2, .int .u64 c2, .int .u64 d2, .string t2, .slice A2 ks2.length cp2]) (by simp [results, Try.results98, go_sem, ye0, ye1, ye2, ye3, ye4, ye5, ye6]) rfl (HSJ.out _ _ _ _ _ _ _)
    by_cases h7 : k2 = 7
    · subst h7
      have hz : singleS (.mk 9 a b c d t (.mk 7 a2 b2 c2 d2 t2 ks2 :: xs)) = (.mk 7 a2 b2 c2 d2 t2 ks2, true) := by rw [single_two]; simp
      have hsm : Blk (wd.setCell ⟨mb, 2, none⟩ (.bool true)) mb 138 (mkS GA FA gn gcp fn fcp true) := hmk.set_ 2 _
      have hf2 := hmk.frozen 2
      have hm2 : wd.cell? ⟨mb, 2, none⟩ = some (.bool m) := hmk.cell 2
      have hgs : w.grownBy (wd.setCell ⟨mb, 2, none⟩ (.bool true)) (some mb) := grown_set hgr _
      have hrs2 := hrs.far (p := ⟨mb, 2, none⟩) (by simp; omega) (.bool true)
      have hkb2 := hkb.far (p := ⟨mb, 2, none⟩) (by simp; omega) (.bool true)
      have hx2 := hxd.set (k := mb) (fun hb => by have := hb.1; omega) 2 (.bool true)
      have hsz2 : (wd.setCell ⟨mb, 2, none⟩ (.bool true)).heap.size = wd.heap.size := by simp [World.setCell]
      clear heb
      go_upto_region 12 with fail
      generalize (wd.setCell ⟨mb, 2, none⟩ (.bool true)) = w5 at hsm hgs hrs2 hkb2 hx2 hsz2 ⊢
      clear hf2 hm2 hmk hgr hrs hkb hxd
      have x0 : w5.cell? ⟨w.heap.size + 1 + 1, 0, none⟩ = some (.int .i64 7) := hkb2.cell 0; have x1 : w5.cell? ⟨w.heap.size + 1 + 1, 1, none⟩ = some (.int .u64 a2) := hkb2.cell 1; have x2 : w5.cell? ⟨w.heap.size + 1 + 1, 2, none⟩ = some (.int .u64 b2) := hkb2.cell 2; have x3 : w5.cell? ⟨w.heap.size + 1 + 1, 3, none⟩ = some (.int .u64 c2) := hkb2.cell 3; have x4 : w5.cell? ⟨w.heap.size + 1 + 1, 4, none⟩ = some (.int .u64 d2) := hkb2.cell 4; have x5 : w5.cell? ⟨w.heap.size + 1 + 1, 5, none⟩ = some (.string t2) := hkb2.cell 5; have x6 : w5.cell? ⟨w.heap.size + 1 + 1, 6, none⟩ = some (.slice A2 ks2.length cp2) := hkb2.cell 6
      have hsi := fun u0 u1 u2 u3 u4 u5 u6 => HSI1.out _ _ _ hz (sim_end (S := fun b => lo <= b /\ b < w.heap.size) (rb := w.heap.size + 1) (hi := w.heap.size) (cs := exCells 7 a2 b2 c2 d2 t2 A2 ks2.length cp2) hx2 (fun b hb => ⟨hb.1, by have := hb.2; omega, by have := hb.2; omega⟩) (by omega) hgs (by omega) hsm (by omega) u0 u1 u2 u3 u4 u5 u6)
      obtain ⟨yz0, yz1, yz2, yz3, yz4, yz5, yz6, yf0, yf1, yf2, yf3, yf4, yf5, yf6, ye0, ye1, ye2, ye3, ye4, ye5, ye6⟩ := st7 hrs2 (.int .i64 7) (.int .u64 a2) (.int .u64 b2) (.int .u64 c2) (.int .u64 d2) (.string t2) (.slice A2 ks2.length cp2)
      have HSJ := Lib.hid hsi
      clear hsi
      go_wp2
      exact bodyPost_ret (v := .agg #[.int .i64 7, .int .u64 a2, .int .u64 b2, .int .u64 c2, .int .u64 d2, .string t2, .slice A2 ks2.length cp2]) (by simp [results, Try.results98, go_sem, ye0, ye1, ye2, ye3, ye4, ye5, ye6]) rfl (HSJ.out _ _ _ _ _ _ _)
    by_cases h8 : k2 = 8
    · subst h8
      have hz : singleS (.mk 9 a b c d t (.mk 8 a2 b2 c2 d2 t2 ks2 :: xs)) = (ofN 7 ks2, true) := by rw [single_two]; simp
      have hsm : Blk (wd.setCell ⟨mb, 2, none⟩ (.bool true)) mb 138 (mkS GA FA gn gcp fn fcp true) := hmk.set_ 2 _
      have hf2 := hmk.frozen 2
      have hm2 : wd.cell? ⟨mb, 2, none⟩ = some (.bool m) := hmk.cell 2
      have hgs : w.grownBy (wd.setCell ⟨mb, 2, none⟩ (.bool true)) (some mb) := grown_set hgr _
      have hrs2 := hrs.far (p := ⟨mb, 2, none⟩) (by simp; omega) (.bool true)
      have hkb2 := hkb.far (p := ⟨mb, 2, none⟩) (by simp; omega) (.bool true)
      have hx2 := hxd.set (k := mb) (fun hb => by have := hb.1; omega) 2 (.bool true)
      have hsz2 : (wd.setCell ⟨mb, 2, none⟩ (.bool true)).heap.size = wd.heap.size := by simp [World.setCell]
      clear heb
      go_upto_region 15 with fail
      generalize (wd.setCell ⟨mb, 2, none⟩ (.bool true)) = w5 at hsm hgs hrs2 hkb2 hx2 hsz2 ⊢
      clear hf2 hm2 hmk hgr hrs hkb hxd
      have x6 : w5.cell? ⟨w.heap.size + 1 + 1, 6, none⟩ = some (.slice A2 ks2.length cp2) := hkb2.cell 6
      have hsi := fun u0 u1 u2 u3 u4 u5 u6 => HSI1.out _ _ _ hz (sim_end (S := fun b => lo <= b /\ b < w.heap.size) (rb := w.heap.size + 1) (hi := w.heap.size) (cs := exCells 7 0 0 0 0 ⟨#[]⟩ A2 ks2.length cp2) (hx2.re 7 0 0 0 0 (t' := ⟨#[]⟩) (by decide)) (fun b hb => ⟨hb.1, by have := hb.2; omega, by have := hb.2; omega⟩) (by omega) hgs (by omega) hsm (by omega) u0 u1 u2 u3 u4 u5 u6)
      obtain ⟨yz0, yz1, yz2, yz3, yz4, yz5, yz6, yf0, yf1, yf2, yf3, yf4, yf5, yf6, ye0, ye1, ye2, ye3, ye4, ye5, ye6⟩ := st7 hrs2 (.int .i64 7) (.int .u64 0) (.int .u64 0) (.int .u64 0) (.int .u64 0) (.string ⟨#[]⟩) (.slice A2 ks2.length cp2)
      have HSJ := Lib.hid hsi
      clear hsi
      go_wp2
      exact bodyPost_ret (v := .agg #[.int .i64 7, .int .u64 0, .int .u64 0, .int .u64 0, .int .u64 0, .string ⟨#[]⟩, .slice A2 ks2.length cp2]) (by simp [results, Try.results98, go_sem, ye0, ye1, ye2, ye3, ye4, ye5, ye6]) rfl (HSJ.out _ _ _ _ _ _ _)
    have hz : singleS (.mk 9 a b c d t (.mk k2 a2 b2 c2 d2 t2 ks2 :: xs)) = (.mk 9 a b c d t (.mk k2 a2 b2 c2 d2 t2 ks2 :: xs), false) := by rw [single_two]; simp [h9, h7, h8]
    have b9 : (k2 == 9) = false := by rw [beq_eq_false_iff_ne]; exact h9
    have b7 : (k2 == 7) = false := by rw [beq_eq_false_iff_ne]; exact h7
    have b8 : (k2 == 8) = false := by rw [beq_eq_false_iff_ne]; exact h8
    go_upto_region 16 with fail
    have x0 : wd.cell? ⟨w.heap.size, 0, none⟩ = some (.int .i64 9) := heb.cell 0; have x1 : wd.cell? ⟨w.heap.size, 1, none⟩ = some (.int .u64 a) := heb.cell 1; have x2 : wd.cell? ⟨w.heap.size, 2, none⟩ = some (.int .u64 b) := heb.cell 2; have x3 : wd.cell? ⟨w.heap.size, 3, none⟩ = some (.int .u64 c) := heb.cell 3; have x4 : wd.cell? ⟨w.heap.size, 4, none⟩ = some (.int .u64 d) := heb.cell 4; have x5 : wd.cell? ⟨w.heap.size, 5, none⟩ = some (.string t) := heb.cell 5; have x6 : wd.cell? ⟨w.heap.size, 6, none⟩ = some (.slice AA nn cp) := heb.cell 6
    have hsi := fun u0 u1 u2 u3 u4 u5 u6 => HSI0.out _ _ _ hz (sim_end (S := fun b => lo <= b /\ b < w.heap.size) (rb := w.heap.size + 1) (hi := w.heap.size) (cs := exCells 9 a b c d t AA nn cp) hed (fun b hb => ⟨hb.1, by have := hb.2; omega, by have := hb.2; omega⟩) (by omega) hgr (by omega) hmk (by omega) u0 u1 u2 u3 u4 u5 u6)
    obtain ⟨yz0, yz1, yz2, yz3, yz4, yz5, yz6, yf0, yf1, yf2, yf3, yf4, yf5, yf6, ye0, ye1, ye2, ye3, ye4, ye5, ye6⟩ := st7 hrs (.int .i64 9) (.int .u64 a) (.int .u64 b) (.int .u64 c) (.int .u64 d) (.string t) (.slice AA nn cp)
    have HSJ := Lib.hid hsi
    clear hsi
    go_wp2
    exact bodyPost_ret (v := .agg #[.int .i64 9, .int .u64 a, .int .u64 b, .int .u64 c, .int .u64 d, .string t, .slice AA nn cp]) (by simp [results, Try.results98, go_sem, ye0, ye1, ye2, ye3, ye4, ye5, ye6]) rfl (HSJ.out _ _ _ _ _ _ _)
end Go.Proofs.Ytkmcnekjimobhaa
