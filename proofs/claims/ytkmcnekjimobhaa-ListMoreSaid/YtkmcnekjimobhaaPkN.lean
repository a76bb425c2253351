/- pack.New. -/
import Derived.Test.YtkmcnekjimobhaaPkY
namespace Go.Proofs.Ytkmcnekjimobhaa
open Go.RowKit Go.Maps

theorem int_info_ : (Try.prog.info? 3).map (fun i => (i.zero, i.size, i.bytes)) = some (some (.int .i64 0), 1, 8) := by kernel_rfl
def ps0 : PS := ⟨[], [], -1, noS, []⟩
/-- the numbers of the first nodes of rules -/
def firstsN (g : List Rl) (j : Nat) : List Nat := (List.range j).map (firstN g)
theorem firstsN_succ (g : List Rl) (j : Nat) : firstsN g (j + 1) = firstsN g j ++ [firstN g j] := by
  unfold firstsN
  rw [List.range_succ, List.map_append]
  rfl
theorem firstN_succ {g : List Rl} {j : Nat} {r : Rl} (h : g[j]? = some r) : firstN g (j + 1) = firstN g j + nodes r.2 := by
  unfold firstN
  rw [take_succ_of h, List.map_append, List.sum_append]
  simp
theorem firstN_le {g : List Rl} (h : ∀ r ∈ g, nodes r.2 ≤ 60) : ∀ j, firstN g j ≤ j * 60 := by
  intro j
  induction j with
  | zero => simp [firstN]
  | succ j ih =>
    cases hr : g[j]? with
    | some r =>
      rw [firstN_succ hr]
      have := h r (List.mem_of_getElem? hr)
      omega
    | none =>
      have hl : g.length ≤ j := List.getElem?_eq_none_iff.1 hr
      unfold firstN at ih ⊢
      rw [List.take_of_length_le (by omega)]
      rw [List.take_of_length_le (by omega)] at ih
      omega
theorem own_ne_t {w : World} {base n size k : Nat} {e T : TypeId} {v : Value} {xs : List Value} {cs : Array Value} (hb : Blk w k T cs) (ho : w.ownsRow base e size v n xs) (hT : T ≠ e) : some k ≠ v.ownBlock := fun h => by
  rcases ho.2 with ⟨rfl, _⟩ | ⟨g, cap, cur, rfl, hb', hgg, _⟩
  · cases h
  · simp only [Value.ownBlock, Option.some.injEq] at h
    subst h
    have hb2 : w.heap[k]? = some (.cells cs T (0, 0)) := hb
    rw [hgg] at hb2
    injection hb2 with hb2
    injection hb2 with e1 e2 e3
    exact hT e2.symm
theorem own_cell {w : World} {base n i F cap : Nat} {e : TypeId} {xs : List Value} {u : Value} (ho : w.ownsRow base e 1 (.slice (some ⟨F, 0, none⟩) n cap) n xs) (h : xs[i]? = some u) : w.cell? ⟨F, i, none⟩ = some u := by
  rcases ho.2 with ⟨h1, _⟩ | ⟨g, cap', cur, h1, hb', hgg, _, _, _, hx⟩
  · cases h1
  · injection h1 with h1 h2 h3
    injection h1 with h1
    injection h1 with h1
    subst h1
    rw [cell_of_row w F i cur e (0, 0) hgg, ← Array.getElem?_toList]
    have hi := getElem?_lt h
    rw [← hx, List.getElem?_take] at h
    split at h
    · exact h
    · cases h
def natV (l : List Nat) : List Value := l.map fun x : Nat => Value.int .i64 x
/-- what New leaves -/
def NewQ (g : List Rl) (s : ByteArray) (A : Option Addr) (cp : Nat) (row : Nat → List Value) (w : World) (e : Ending) (w' : World) : Prop := ∃ c : PC, c.g = g ∧ c.s = s ∧ c.hook = .nilFunc ∧ (c.hk = false ∧ c.lim = 1000000000000 ∧ c.B ≤ c.F ∧ c.A = A ∧ c.cp = cp ∧ c.row = row) ∧ e = .returned (.pointer (some ⟨c.P, 0, none⟩)) ∧ c.Ok ∧ Par c w' ps0 ∧ Below w.heap.size w w' ∧ c.B = w.heap.size
/-- the parser's cells while it is made -/
def newC (A : Option Addr) (n cp : Nat) (s : ByteArray) (M : Nat) (fv : Value) : Array Value :=
  #[.slice A n cp, .string s, .map (some M), .slice none 0 0, .int .i64 (-1), .int .u64 0, .int .u64 0, .int .u64 0, .int .u64 0, .nilFunc, fv]

set_option maxRecDepth 100000 in
set_option maxHeartbeats 8000000 in
theorem new_any {g : List Rl} {A : Option Addr} {cp : Nat} {row : Nat → List Value} {w : World} (h : GrIs w w.heap.size g A cp row) (h0 : 0 < g.length) (h10 : g.length ≤ 10) (h60 : ∀ r ∈ g, nodes r.2 ≤ 60) (s : ByteArray) :
    Calls Try.prog 44 #[.agg #[.slice A g.length cp], .string s] w (NewQ g s A cp row w) := by
  have hmm := @run_makeMap Try.prog
  obtain ⟨i0, hi, hz0, hz1, hz2⟩ := info_parts int_info_
  have H := Lib.hid h
  have H60 := Lib.hid h60
  have hfl := firstN_le h60
  have HFL := Lib.hid hfl
  clear h h60 hfl
  go_enter Try.func44, Try.ntmps44
  go_wp2
  go_loopw [6, 17] (fun n i wr => ∃ (j : Nat) (fv : Value), j ≤ g.length ∧ i = .int .i64 j ∧ n = .int .i64 (firstN g j : Nat) ∧ Blk wr (w.heap.size + 1 + 1) 102 (newC A g.length cp s (w.heap.size + 1) fv) ∧ Hid (wr.ownsRow (w.heap.size + 3) 3 1 fv j (natV (firstsN g j))) ∧ Hid (Memo wr (w.heap.size + 1) []) ∧ Below w.heap.size w wr ∧ w.heap.size + 3 ≤ wr.heap.size) (fun _ i _ => g.length - (intOf i).toNat)
  case atStart =>
    refine ⟨0, .slice none 0 0, by omega, rfl, rfl, blk_at (by simp), World.ownsRow_nil _ _ _ _, ?_, (by repeat (first | exact Below.refl _ _ | assumption | refine Below.drew ?_ | refine below_drewN ?_ _ | refine Below.alloc ?_ (by first | omega | (simp; omega) | simp) _ | refine Below.setCell ?_ (by first | omega | (simp; omega) | simp) _)), by simp⟩
    have h1 := memo_made (w.alloc (.cells #[.slice A g.length cp] 24))
    rw [show (w.alloc (.cells #[.slice A g.length cp] 24)).heap.size = w.heap.size + 1 by simp] at h1
    exact h1.kept (grown_of_below ((Below.refl _ _).alloc (Nat.le_refl _) _) none) (by simp)
  case round =>
    obtain ⟨j, fv, hj, rfl, rfl, hbx, HO, HMe, hwr, hz3⟩ := hrel
    obtain ⟨V, c', rfl⟩ := own_form HO.out
    have hfj := HFL.out j
    have hpl := hbx.lt
    have p10 : wr.cell? ⟨w.heap.size + 1 + 1, 10, none⟩ = some (.slice V j c') := hbx.cell 10
    have hwz := hwr.size
    by_cases hjk : j < g.length
    · obtain ⟨ad, nm, k', a', b', c1, d', t', ks', A', cp', rfl, hab, hej, hnm, hE, ⟨e0, e1, e2, e3, e4, e5, e6, e7⟩⟩ := (H.out.on hwr).rule hjk
      have hfs := firstN_succ hej
      have hn60 := H60.out _ (List.mem_of_getElem? hej)
      have hcn := fun W (hW : Below w.heap.size w W) => count_any _ _ W (hE.keep hW.size fun _ hp => (hW.cell hp).trans (hwr.cell hp).symm) (by simp only at hn60; omega)
      have hnewc : ∀ (u : Nat) (v : Value), [Value.int .i64 (firstN g j : Nat)][u]? = some v → ((wr.alloc (.cells #[.string nm, .int .i64 k', .int .u64 a', .int .u64 b', .int .u64 c1, .int .u64 d', .string t', .slice A' ks'.length cp'] 96)).alloc (.cells #[.int .i64 (firstN g j : Nat)] 3)).cell? ((⟨wr.heap.size + 1, 0, none⟩ : Addr).add u) = some v := by
        have h1 := new_cells (wr.alloc (.cells #[.string nm, .int .i64 k', .int .u64 a', .int .u64 b', .int .u64 c1, .int .u64 d', .string t', .slice A' ks'.length cp'] 96)) 3 [.int .i64 (firstN g j : Nat)]
        rw [show (wr.alloc (.cells #[.string nm, .int .i64 k', .int .u64 a', .int .u64 b', .int .u64 c1, .int .u64 d', .string t', .slice A' ks'.length cp'] 96)).heap.size = wr.heap.size + 1 by simp] at h1
        exact h1
      have hbr : Blk ((wr.alloc (.cells #[.string nm, .int .i64 k', .int .u64 a', .int .u64 b', .int .u64 c1, .int .u64 d', .string t', .slice A' ks'.length cp'] 96)).alloc (.cells #[.int .i64 (firstN g j : Nat)] 3)) wr.heap.size 96 #[.string nm, .int .i64 k', .int .u64 a', .int .u64 b', .int .u64 c1, .int .u64 d', .string t', .slice A' ks'.length cp'] := (blk_at rfl).alloc _
      unfold exCells at hcn
      have HNC := Lib.hid hnewc
      have HCN := Lib.hid hcn
      have HFS := Lib.hid hfs
      have HBR := Lib.hid hbr
      have HBX := Lib.hid hbx
      simp only at hn60
      generalize nodes (.mk k' a' b' c1 d' t' ks') = nn at HFS HCN hn60
      generalize hq : firstN g j = q at hfj HNC HFS HBR
      have HQ := Lib.hid hq
      clear hnewc hcn hfs hE hej hbr hq
      have hq600 : q ≤ 600 := by omega
      go_wp2_with (at_builtin; refine wpList_append_own _ rfl _ _ _ rfl (w.heap.size + 3) 3 i0 _ 1 8 Try.underlying100 hi hz0 hz1 hz2 rfl (by decide) _ _ _ rfl ((HO.out.alloc _).alloc _) ⟨wr.heap.size + 1, 0, none⟩ 1 1 [.int .i64 q] rfl rfl HNC.out (by simp [Value.oneCell']) (by unfold maxLen; omega) (by omega) (by simp; omega) ?_; intro v' w2 hown2 hgr2 _; obtain ⟨V2, c2, rfl⟩ := own_form hown2; have hP2 := ((HBX.out.alloc _).alloc _).grown hgr2 (own_ne HO.out (by omega)); have s10 : w2.cell? ⟨w.heap.size + 1 + 1, 10, none⟩ = some (.slice V j c') := hP2.cell 10; have f10 := hP2.frozen 10; have hB2 := HBR.out.grown hgr2 (own_ne_t HBR.out ((HO.out.alloc _).alloc _) (by decide)); have hgs := hgr2.size; have y0 : w2.cell? ⟨wr.heap.size, 0, none⟩ = some (.string nm) := hB2.cell 0; have y1 : w2.cell? ⟨wr.heap.size, 1, none⟩ = some (.int .i64 k') := hB2.cell 1; have y2 : w2.cell? ⟨wr.heap.size, 2, none⟩ = some (.int .u64 a') := hB2.cell 2; have y3 : w2.cell? ⟨wr.heap.size, 3, none⟩ = some (.int .u64 b') := hB2.cell 3; have y4 : w2.cell? ⟨wr.heap.size, 4, none⟩ = some (.int .u64 c1) := hB2.cell 4; have y5 : w2.cell? ⟨wr.heap.size, 5, none⟩ = some (.int .u64 d') := hB2.cell 5; have y6 : w2.cell? ⟨wr.heap.size, 6, none⟩ = some (.string t') := hB2.cell 6; have y7 : w2.cell? ⟨wr.heap.size, 7, none⟩ = some (.slice A' ks'.length cp') := hB2.cell 7)
      have hw2 : Below w.heap.size w w2 := below_app ((hwr.alloc hwz _).alloc (by simp; omega) _) ((HO.out.alloc _).alloc _) hgr2 (by simp; omega) (by omega)
      have hw2z := hw2.size
      refine (HCN.out _ (hw2.setCell (by simp; omega) _)).mono ?_
      rintro e w3 ⟨rfl, hb3⟩
      have hP3 : Blk w3 (w.heap.size + 1 + 1) 102 (newC (some ad) g.length cp s (w.heap.size + 1) (.slice V2 (j + 1) c2)) := (hP2.set_ 10 (.slice V2 (j + 1) c2)).below hb3 (by have := hP2.lt; simpa [World.setCell] using this)
      have hgp : w2.grownBy (w2.setCell ⟨w.heap.size + 1 + 1, 10, none⟩ (.slice V2 (j + 1) c2)) (some (w.heap.size + 1 + 1)) := ⟨rfl, rfl, rfl, by simp [World.setCell], fun k hk hne => Below.heap_setCell w2 ⟨w.heap.size + 1 + 1, 10, none⟩ _ k (by rintro rfl; exact hne rfl)⟩
      have hO3 := own_below (own_far hown2 hgp (by omega)) hb3
      have hM2 := (((HMe.out.kept (grown_of_below (((Below.refl _ wr).alloc (Nat.le_refl _) _).alloc (by simp) _) none) (by simp)).kept hgr2 (own_ne HO.out (by omega))).kept hgp (by simp)).kept (grown_of_below hb3 none) (by simp)
      have hw3 : Below w.heap.size w w3 := (hw2.setCell (by simp; omega) _).trans (hb3.mono (by simpa [World.setCell] using hw2z))
      have hz4 : w.heap.size + 3 ≤ w3.heap.size := by have := hP3.lt; omega
      have hq1 : q + nn ≤ 700 := by omega
      clear y0 y1 y2 y3 y4 y5 y6 y7 s10 f10 hb3 hgp hown2 hP2 hB2
      go_wp2
      go_roundw
      case rel => exact ⟨j + 1, .slice V2 (j + 1) c2, by omega, by go_num, by rw [HFS.out]; go_num, hP3, (by show World.ownsRow _ _ _ _ _ _ _; rw [firstsN_succ, HQ.out, natV, List.map_append]; exact hO3), hM2, hw3, hz4⟩
      case measure => simp [intOf]; omega
    · obtain rfl : j = g.length := by omega
      obtain ⟨F, c3, hF⟩ := Joins.ownsRow_form HO.out h0
      simp only [Value.slice.injEq, true_and] at hF
      obtain ⟨rfl, rfl⟩ := hF
      have hFl := HO.out.lt F rfl
      go_wp2
      go_ret
      refine ⟨{ B := w.heap.size, P := w.heap.size + 1 + 1, M := w.heap.size + 1, F := F, base := wr.heap.size, A := A, n := g.length, cp := cp, fcp := c', s := s, hook := .nilFunc, firsts := firstsN g g.length, g := g, row := row, ob := w.heap.size + 1, bo := 0, hk := false, lim := 1000000000000 }, rfl, rfl, rfl, ⟨rfl, rfl, by simp; omega, rfl, rfl, rfl⟩, rfl, ⟨by simp; omega, by simp, by simp; omega, by simp; omega, by simp; omega, by simp; omega, by simp; omega, by simp; omega, by simp, rfl, fun i hi => ?_, Nat.le_refl _, fun h => (by cases h)⟩, ⟨⟨.slice none 0 0, hbx, World.ownsRow_nil _ _ _ _⟩, HMe.out, fun i x hi => ?_, by simp, H.out.on hwr, ⟨by simp [ps0], by simp [ps0], rfl⟩, fun h => (by cases h)⟩, hwr, rfl⟩
      · have hi' : i < g.length := hi
        simp [firstsN, hi']
      · have hi' : (firstsN g g.length)[i]? = some x := hi
        exact own_cell HO.out (by simp [natV, hi'])
end Go.Proofs.Ytkmcnekjimobhaa
