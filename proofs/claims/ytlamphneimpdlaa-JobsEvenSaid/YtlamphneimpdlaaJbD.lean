/- Jobs: the walk of jobs.Run. -/
import Derived.Test.YtlamphneimpdlaaJbC
namespace Go.Proofs.Ytlamphneimpdlaa
open Go.RowKit

def JobsOk (js : List Jb) (s r : Int) : Prop := js.length ≤ 8 ∧ (1 ≤ s ∧ s ≤ 1000 ∧ 0 ≤ r ∧ r ≤ 1000) ∧ ∀ j ∈ js, j.Ok
/-- how far each is after so many rounds -/
noncomputable def stR (js : List Jb) (s r i : Nat) : Jst := match js[i]? with
  | some j => j.after s r
  | none => startJ 0
def stC (V : Option Addr × Nat) (x : Jst) : List Value := [fnV V x, .string x.cur.1, .bool x.cur.2, .int .i64 x.left]
def stF (Vs : Nat → Option Addr × Nat) (st : Nat → Jst) (k : Nat) : List Value := (List.range k).flatMap fun i => stC (Vs i) (st i)
def ptrs (ps : List Nat) : List Value := ps.map fun p => .pointer (some ⟨p, 0, none⟩)
def JrunQ (js : List Jb) (s r : Int) (w : World) (e : Ending) (w' : World) : Prop := Below w.heap.size w w' ∧
  ((¬ JobsOk js s r ∧ ∃ x, x ≠ 0 ∧ e = .returned (.tuple #[.slice none 0 0, .int .i64 x])) ∨
   (JobsOk js s r ∧ ∃ V c Vs, e = .returned (.tuple #[.slice V js.length c, .int .i64 0]) ∧ w'.ownsRow w.heap.size 75 4 (.slice V js.length c) js.length (stF Vs (stR js s.toNat r.toNat) js.length) ∧
      ∀ i, i < js.length → w'.ownsRow w.heap.size 9 1 (fnV (Vs i) (stR js s.toNat r.toNat i)) (stR js s.toNat r.toNat i).found.length ((stR js s.toNat r.toNat i).found.map Value.string)))
/-- what the first loop asks: may the job be run? -/
theorem ask_any {w0 : World} {j : Jb} (h : j.In w0) {w : World} (hw : Below w0.heap.size w0 w) :
    Calls Try.prog 25 #[.agg #[.slice j.A j.g.length j.cp], .string j.a, .int .i64 j.n, .agg #[.string ⟨#[]⟩, .bool false], .int .i64 (min 0 j.bud)] w fun e w' => Below w.heap.size w w' ∧
      ∃ V n c x, e = .returned (.tuple #[.slice V n c, .agg #[.string (x : ByteArray × Bool × Int).1, .bool x.2.1], .int .i64 x.2.2]) ∧ (x.2.2 = 0 ↔ LookOk j.g j.a j.n ∧ 0 ≤ j.bud) := by
  refine (list_any (h.gr.grow hw) h.wf j.a j.n h.az h.n (⟨#[]⟩, false) (by show (0 : Nat) ≤ _; exact Nat.zero_le _) (min 0 j.bud)).mono ?_
  rintro e w' ⟨hb, ⟨h1, x, h2, _, rfl⟩ | ⟨h1, h2, rfl⟩ | ⟨h1, ⟨h2, h3, _⟩, V2, c2, l2, cu2, h4, rfl, _⟩⟩
  · exact ⟨hb, none, 0, 0, (⟨#[]⟩, false, x), rfl, fun e => absurd e h2, fun e => absurd e.1 h1⟩
  · refine ⟨hb, none, 0, 0, (⟨#[]⟩, false, 1), rfl, fun e => by simp at e, fun e => absurd ⟨?_, ?_, ?_⟩ h2⟩
    · have := e.2; omega
    · omega
    · exact cur_start h1.2.1 _
  · exact ⟨hb, V2, l2.length, c2, (cu2.1, cu2.2, 0), rfl, fun _ => ⟨h1, by omega⟩, fun _ => rfl⟩

theorem stR_succ {js : List Jb} {j : Jb} {s q i : Nat} (hj : js[i]? = some j) : stR js s (q + 1) i = turnJ (accG j.g) j.a.data.toList j.n.toNat s (stR js s q i) := by
  simp only [stR, hj]
  rfl
theorem tk_one {js : List Jb} {s base : Nat} {ps : List Nat} {w : World} {j : Jb} (h : Tk js (stR js s 0) base ps (fun _ => (none, 0)) w) (hj : js[ps.length]? = some j) (hb0 : 0 ≤ j.bud) (hbase : base ≤ w.heap.size) :
    Tk js (stR js s 0) base (ps ++ [w.heap.size]) (fun _ => (none, 0)) (w.alloc (.cells #[.slice j.A j.g.length j.cp, .string j.a, .int .i64 j.n, .int .i64 j.bud, .slice none 0 0, .string ⟨#[]⟩, .bool false, .int .i64 j.bud] 146)) := by
  have hst : stR js s 0 ps.length = startJ j.bud.toNat := by simp [stR, hj, Jb.after, turnsJ]
  refine (h.below ((Below.refl _ w).alloc (Nat.le_refl _) _)).push hj (by rw [hst]; rfl) hbase (fun hm => ?_) ?_
  · obtain ⟨i, hi⟩ := List.getElem?_of_mem hm
    have h1 := getElem?_lt hi
    have h2 := (h.blk i _ _ (List.getElem?_eq_getElem (by have := h.len; omega)) hi).lt
    omega
  · rw [hst]
    have e : ((j.bud.toNat : Nat) : Int) = j.bud := Int.toNat_of_nonneg hb0
    unfold Jb.task taskC startJ
    simp only [e, List.length_nil]
    exact blk_at rfl
theorem st_info : (Try.prog.info? 75).map (fun i => (i.zero, i.size, i.bytes)) = some (some (.agg #[.slice none 0 0, .string ByteArray.empty, .bool false, .int .i64 0]), 4, 56) := by kernel_rfl
theorem tp_info : (Try.prog.info? 144).map (fun i => (i.zero, i.size, i.bytes)) = some (some (.pointer none), 1, 8) := by kernel_rfl
theorem jb_get : ∀ {l : List Jb} {i : Nat} {r : Jb}, l[i]? = some r → ∀ {u : Nat} {v : Value}, r.cells[u]? = some v → (l.flatMap Jb.cells)[i * 4 + u]? = some v
  | [], i, r, h, _, _, _ => by simp at h
  | x :: l, 0, r, hr, u, v, hu => by
    simp at hr
    subst hr
    rw [List.flatMap_cons, Nat.zero_mul, Nat.zero_add, List.getElem?_append_left (getElem?_lt hu)]
    exact hu
  | x :: l, i + 1, r, hr, u, v, hu => by
    have h1 : x.cells.length = 4 := rfl
    rw [List.flatMap_cons, List.getElem?_append_right (by rw [h1]; omega), h1, show (i + 1) * 4 + u - 4 = i * 4 + u by omega]
    exact jb_get (by simpa using hr) hu

set_option maxRecDepth 100000 in
set_option maxHeartbeats 2000000 in
theorem jrun_any {js : List Jb} {LA : Option Addr} {lc : Nat} {w : World} (hin : ∀ j ∈ js, j.In w) (hr : Reads w w.heap.size 4 LA js.length (js.flatMap Jb.cells)) (s r : Int) (hrr : I64 r) :
    Calls Try.prog 36 #[.slice LA js.length lc, .int .i64 s, .int .i64 r] w (JrunQ js s r w) := by
  have hbad : ∀ x, x ≠ 0 → ¬ JobsOk js s r → ∀ w', Below w.heap.size w w' → JrunQ js s r w (.returned (.tuple #[.slice none 0 0, .int .i64 x])) w' := fun x hx hn w' hb => ⟨hb, .inl ⟨hn, x, hx, rfl⟩⟩
  have HBAD := Lib.hid hbad
  clear hbad
  by_cases h8 : 8 < js.length
  · have HN : Hid (¬ JobsOk js s r) := fun h => by have := h.1; omega
    have h8' : (8 : Int) < (js.length : Int) := by omega
    generalize JrunQ js s r w = Q at HBAD ⊢
    go_enter Try.func36, Try.ntmps36
    go_wp2

    exact HBAD.out 2 (by decide) HN.out _ (by repeat (first | exact Below.refl _ _ | assumption | refine Below.drew ?_ | refine below_drewN ?_ _ | refine Below.alloc ?_ (by first | omega | (simp; omega) | simp) _ | refine Below.setCell ?_ (by first | omega | (simp; omega) | simp) _))
  have h8' : ((8 : Int) < (js.length : Int)) = False := by simp; omega
  by_cases ha : 1 ≤ s ∧ s ≤ 1000 ∧ 0 ≤ r ∧ r ≤ 1000
  case neg =>
    have HN : Hid (¬ JobsOk js s r) := fun h => ha h.2.1
    have hor : ((s < 1 ∨ 1000 < s) ∨ r < 0) ∨ 1000 < r := by omega
    clear ha
    generalize JrunQ js s r w = Q at HBAD ⊢
    by_cases c1 : s < 1
    · clear hor
      go_enter Try.func36, Try.ntmps36
      go_wp2
      exact HBAD.out 1 (by decide) HN.out _ (by repeat (first | exact Below.refl _ _ | assumption | refine Below.drew ?_ | refine below_drewN ?_ _ | refine Below.alloc ?_ (by first | omega | (simp; omega) | simp) _ | refine Below.setCell ?_ (by first | omega | (simp; omega) | simp) _))
    by_cases c2 : 1000 < s
    · clear hor
      go_enter Try.func36, Try.ntmps36
      go_wp2
      exact HBAD.out 1 (by decide) HN.out _ (by repeat (first | exact Below.refl _ _ | assumption | refine Below.drew ?_ | refine below_drewN ?_ _ | refine Below.alloc ?_ (by first | omega | (simp; omega) | simp) _ | refine Below.setCell ?_ (by first | omega | (simp; omega) | simp) _))
    by_cases c3 : r < 0
    · clear hor
      go_enter Try.func36, Try.ntmps36
      go_wp2
      exact HBAD.out 1 (by decide) HN.out _ (by repeat (first | exact Below.refl _ _ | assumption | refine Below.drew ?_ | refine below_drewN ?_ _ | refine Below.alloc ?_ (by first | omega | (simp; omega) | simp) _ | refine Below.setCell ?_ (by first | omega | (simp; omega) | simp) _))
    have c4 : 1000 < r := by omega
    clear hor
    go_enter Try.func36, Try.ntmps36
    go_wp2
    exact HBAD.out 1 (by decide) HN.out _ (by repeat (first | exact Below.refl _ _ | assumption | refine Below.drew ?_ | refine below_drewN ?_ _ | refine Below.alloc ?_ (by first | omega | (simp; omega) | simp) _ | refine Below.setCell ?_ (by first | omega | (simp; omega) | simp) _))
  obtain ⟨hs1, hs2, hr1, hr2⟩ := ha
  have d1 : (s < 1) = False := by simp; omega
  have d2 : (1000 < s) = False := by simp; omega
  have d3 : (r < 0) = False := by simp; omega
  have d4 : (1000 < r) = False := by simp; omega
  have HASK : Hid (∀ j ∈ js, ∀ W, Below w.heap.size w W → _) := fun j hj W hW => ask_any (hin j hj) (w := W) hW
  have HR := Lib.hid hr
  have HIN := Lib.hid hin
  have hjl : js.length ≤ 8 := by omega
  clear hin hr h8
  obtain ⟨it, hit, htz0, htz1, htz2⟩ := info_parts tp_info
  go_enter Try.func36, Try.ntmps36
  go_wp2
  go_loopw [8, 38] (fun tv i wr => ∃ (k : Nat) (V : Option Addr) (c : Nat) (ps : List Nat), k ≤ js.length ∧ i = .int .i64 k ∧ tv = .slice V k c ∧ ps.length = k ∧ Below w.heap.size w wr ∧ Hid (wr.ownsRow w.heap.size 144 1 (.slice V k c) k (ptrs ps)) ∧ Hid (Tk js (stR js s.toNat 0) w.heap.size ps (fun _ => (none, 0)) wr) ∧ Hid (∀ i j, js[i]? = some j → i < k → j.Ok)) (fun _ i _ => js.length - (intOf i).toNat)
  case atStart => exact ⟨0, none, 0, [], by omega, rfl, rfl, rfl, (by repeat (first | exact Below.refl _ _ | assumption | refine Below.drew ?_ | refine below_drewN ?_ _ | refine Below.alloc ?_ (by first | omega | (simp; omega) | simp) _ | refine Below.setCell ?_ (by first | omega | (simp; omega) | simp) _)), World.ownsRow_nil _ _ _ _, Tk.nil _ _ _ _ _, fun _ _ _ h => absurd h (by omega)⟩
  case round =>
    obtain ⟨k, V, c, ps, hk, rfl, rfl, hps, hwr, HO, HT, HOK⟩ := hrel
    have hwz := hwr.size
    by_cases hkn : k < js.length
    · obtain ⟨ad, rfl, hab, hcell⟩ := HR.out.lies (by omega)
      obtain ⟨j, hj⟩ : ∃ j, js[k]? = some j := ⟨_, List.getElem?_eq_getElem hkn⟩
      have hkc : ∀ u v, j.cells[u]? = some v → wr.cell? ((ad.add (k * 4)).add u) = some v := fun u v hu => by
        rw [hwr.cell (by rw [add_block, add_block]; exact hab), add_add']
        exact hcell _ _ (jb_get hj hu)
      have y0 : wr.cell? (ad.add (k * 4)) = some (.slice j.A j.g.length j.cp) := hkc 0 _ rfl
      have y1 : wr.cell? ⟨(ad.add (k * 4)).block, (ad.add (k * 4)).off + 1, none⟩ = some (.string j.a) := hkc 1 _ rfl
      have y2 : wr.cell? ⟨(ad.add (k * 4)).block, (ad.add (k * 4)).off + 2, none⟩ = some (.int .i64 j.n) := hkc 2 _ rfl
      have y3 : wr.cell? ⟨(ad.add (k * 4)).block, (ad.add (k * 4)).off + 3, none⟩ = some (.int .i64 j.bud) := hkc 3 _ rfl
      have had1 : ad.block < wr.heap.size := by omega
      have hkl : (k : Int) < (js.length : Int) := by omega
      have hA := HASK.out j (List.mem_of_getElem? hj)
      have HJ := Lib.hid hj
      clear hkc hcell hj
      by_cases hneg : j.bud < 0
      · rw [show min 0 j.bud = j.bud by omega] at hA
        have HA := Lib.hid hA
        clear hA
        go_wp2_with fail
        refine (HA.out _ (by repeat (first | exact Below.refl _ _ | assumption | refine Below.drew ?_ | refine below_drewN ?_ _ | refine Below.alloc ?_ (by first | omega | (simp; omega) | simp) _ | refine Below.setCell ?_ (by first | omega | (simp; omega) | simp) _))).mono ?_
        rintro e w2 ⟨hb2, V2, n2, c2, ⟨x1, x2, x3⟩, rfl, hx⟩
        have hx3 : (x3 != 0) = true := by
          rw [bne_iff_ne]
          intro e0
          have := (hx.1 e0).2
          omega
        have hxn : x3 ≠ 0 := by rwa [bne_iff_ne] at hx3
        have HN : Hid (¬ JobsOk js s r) := fun h => by have := (h.2.2 j (List.mem_of_getElem? HJ.out)).lo; omega
        have hw2 : Below w.heap.size w w2 := (hwr.alloc (by omega) _).trans (hb2.mono (by simp; omega))
        have hwz2 := hw2.size
        clear hx hb2
        go_wp2
        go_ret2
        exact HBAD.out x3 hxn HN.out _ (by repeat (first | exact Below.refl _ _ | assumption | refine Below.drew ?_ | refine below_drewN ?_ _ | refine Below.alloc ?_ (by first | omega | (simp; omega) | simp) _ | refine Below.setCell ?_ (by first | omega | (simp; omega) | simp) _))
      · rw [show min 0 j.bud = 0 by omega] at hA
        have hneg' : (j.bud < 0) = False := by simp; omega
        have HA := Lib.hid hA
        clear hA hneg
        go_wp2_with fail
        refine (HA.out _ (by repeat (first | exact Below.refl _ _ | assumption | refine Below.drew ?_ | refine below_drewN ?_ _ | refine Below.alloc ?_ (by first | omega | (simp; omega) | simp) _ | refine Below.setCell ?_ (by first | omega | (simp; omega) | simp) _))).mono ?_
        rintro e w2 ⟨hb2, V2, n2, c2, ⟨x1, x2, x3⟩, rfl, hx⟩
        have hw2 : Below w.heap.size w w2 := (hwr.alloc (by omega) _).trans (hb2.mono (by simp; omega))
        have hwz2 := hw2.size
        have hbx : Blk w2 wr.heap.size 73 #[.slice j.A j.g.length j.cp, .string j.a, .int .i64 j.n, .int .i64 j.bud] := (blk_at rfl).below hb2 (by simp)
        have b0 : w2.cell? ⟨wr.heap.size, 0, none⟩ = some (.slice j.A j.g.length j.cp) := hbx.cell 0
        have b1 : w2.cell? ⟨wr.heap.size, 1, none⟩ = some (.string j.a) := hbx.cell 1
        have b2 : w2.cell? ⟨wr.heap.size, 2, none⟩ = some (.int .i64 j.n) := hbx.cell 2
        have b3 : w2.cell? ⟨wr.heap.size, 3, none⟩ = some (.int .i64 j.bud) := hbx.cell 3
        have hbl := hbx.lt
        have HB2 := Lib.hid hb2
        clear hb2
        by_cases hx0 : x3 = 0
        · subst hx0
          have hlk := Lib.hid (hx.1 rfl)
          clear hx
          by_cases hhi : 1048576 < j.bud
          · have HN : Hid (¬ JobsOk js s r) := fun h => by have := (h.2.2 j (List.mem_of_getElem? HJ.out)).hi; omega
            go_wp2
            go_ret2
            exact HBAD.out 1 (by decide) HN.out _ (by repeat (first | exact Below.refl _ _ | assumption | refine Below.drew ?_ | refine below_drewN ?_ _ | refine Below.alloc ?_ (by first | omega | (simp; omega) | simp) _ | refine Below.setCell ?_ (by first | omega | (simp; omega) | simp) _))
          · have hhi' : (1048576 < j.bud) = False := by simp; omega
            clear hhi
            have hO2 := own_below (HO.out.alloc (.cells #[.slice j.A j.g.length j.cp, .string j.a, .int .i64 j.n, .int .i64 j.bud] 73)) HB2.out
            have HO2 := Lib.hid hO2
            clear hO2
            go_wp2_with (at_builtin; refine wpList_append_own _ rfl _ _ _ rfl w.heap.size 144 it _ 1 8 Try.underlying143 hit htz0 htz1 htz2 rfl (by decide) _ _ _ rfl (((HO2.out.alloc _).alloc _).alloc _) ⟨w2.heap.size + 1 + 1, 0, none⟩ 1 1 [.pointer (some ⟨w2.heap.size + 1, 0, none⟩)] (by simp [Act.eval]) rfl (fun q u hu => by rw [cell_add]; exact (Blk.cell (cs := #[.pointer (some ⟨w2.heap.size + 1, 0, none⟩)]) (t := 144) (blk_at (by simp)) q).trans (by rw [List.getElem?_toArray]; exact hu)) (by simp [Value.oneCell']) (by unfold maxLen; omega) (by omega) (by simp; omega) ?_; intro v' w4 hown4 hgr4 _; obtain ⟨V4, c4, rfl⟩ := own_form hown4)
            have hw4 : Below w.heap.size w w4 := below_app (((hw2.alloc (by omega) _).alloc (by simp; omega) _).alloc (by simp; omega) _) (((HO2.out.alloc _).alloc _).alloc _) hgr4 (by simp; omega) (by omega)
            have hT2 := ((HT.out.below ((Below.refl _ wr).alloc (Nat.le_refl _) _)).below HB2.out).below ((Below.refl _ w2).alloc (Nat.le_refl _) (.cells #[.string x1, .bool x2] 50))
            have hT3 := tk_one hT2 (by rw [hps]; exact HJ.out) hlk.out.2 (by simp; omega)
            have hT4 := (hT3.below ((Below.refl _ _).alloc (Nat.le_refl _) (.cells #[.pointer (some ⟨w2.heap.size + 1, 0, none⟩)] 144))).grown (((HO2.out.alloc _).alloc _).alloc _) (by decide) (by decide) hgr4
            have HT4 := Lib.hid hT4
            have HO4 := Lib.hid hown4
            have hOK4 : ∀ i j', js[i]? = some j' → i < k + 1 → j'.Ok := fun i j' h1 h2 => by
              rcases Nat.lt_or_ge i k with h3 | h3
              · exact HOK.out i j' h1 h3
              · obtain rfl : i = k := by omega
                rw [HJ.out] at h1; cases h1
                exact ⟨hlk.out.1, hlk.out.2, by simpa using hhi'⟩
            have HOK4 := Lib.hid hOK4
            clear hT2 hT3 hT4 hown4 hgr4 hOK4
            go_roundw
            case rel => exact ⟨k + 1, V4, c4, ps ++ [w2.heap.size + 1], by omega, by go_num, rfl, by simp [hps], hw4, by have := HO4.out; unfold ptrs at this ⊢; rw [List.map_append]; exact this, Lib.hid (by have := HT4.out; simpa using this), HOK4.out⟩
            case measure => simp [intOf]; omega
        · have hx3 : (x3 != 0) = true := by rw [bne_iff_ne]; exact hx0
          have HN : Hid (¬ JobsOk js s r) := fun h => hx0 (hx.2 ⟨(h.2.2 j (List.mem_of_getElem? HJ.out)).look, (h.2.2 j (List.mem_of_getElem? HJ.out)).lo⟩)
          have HX0 := Lib.hid hx0
          clear hx hx0
          go_wp2
          go_ret2
          exact HBAD.out x3 HX0.out HN.out _ (by repeat (first | exact Below.refl _ _ | assumption | refine Below.drew ?_ | refine below_drewN ?_ _ | refine Below.alloc ?_ (by first | omega | (simp; omega) | simp) _ | refine Below.setCell ?_ (by first | omega | (simp; omega) | simp) _))
    · obtain rfl : k = js.length := by omega
      have HOKS : Hid (JobsOk js s r) := ⟨hjl, ⟨hs1, hs2, hr1, hr2⟩, fun j hj => by obtain ⟨i, hi⟩ := List.getElem?_of_mem hj; exact HOK.out i j hi (getElem?_lt hi)⟩
      clear HOK HBAD HASK hkn
      rename World => ws
      go_wp2
      go_loopw [74] (fun i wq => ∃ (q : Nat) (Vs : Nat → Option Addr × Nat), (q : Int) ≤ r ∧ i = .int .i64 q ∧ Below w.heap.size w wq ∧ Hid (wq.ownsRow w.heap.size 144 1 (.slice V js.length c) js.length (ptrs ps)) ∧ Hid (Tk js (stR js s.toNat q) w.heap.size ps Vs wq)) (fun i _ => r.toNat - (intOf i).toNat)
      case atStart => exact ⟨0, fun _ => (none, 0), by omega, rfl, hwr, HO, HT⟩
      case round =>
        clear HO HT hwr hwz
        obtain ⟨q, Vs, hq, rfl, hwq, HO, HT⟩ := hrel
        have hwz := hwq.size
        by_cases hqr : (q : Int) < r
        · rename World => wp
          have HQ : Hid ((q : Int) + 1 ≤ r) := by show _ ≤ _; omega
          go_wp2
          go_loopw [78] (fun i wx => ∃ (m : Nat) (Vx : Nat → Option Addr × Nat), m ≤ js.length ∧ i = .int .i64 m ∧ Below w.heap.size w wx ∧ Hid (wx.ownsRow w.heap.size 144 1 (.slice V js.length c) js.length (ptrs ps)) ∧ Hid (Tk js (fun a => if a < m then stR js s.toNat (q + 1) a else stR js s.toNat q a) w.heap.size ps Vx wx)) (fun i _ => js.length - (intOf i).toNat)
          case atStart => exact ⟨0, Vs, by omega, rfl, hwq, HO, HT.out.congr fun i _ => by simp⟩
          case round =>
            clear HO HT hwq hwz
            obtain ⟨m, Vx, hm, rfl, hwx, HO, HT⟩ := hrel
            have hwz := hwx.size
            by_cases hmn : m < js.length
            · obtain ⟨ad, rfl, hab, hcell⟩ := (Reads.of_own HO.out).lies (by omega)
              obtain ⟨j, hj⟩ : ∃ j, js[m]? = some j := ⟨_, List.getElem?_eq_getElem hmn⟩
              obtain ⟨p, hp⟩ : ∃ p, ps[m]? = some p := ⟨_, List.getElem?_eq_getElem (by omega)⟩
              have y0 := hcell m _ (show (ptrs ps)[m]? = some (.pointer (some ⟨p, 0, none⟩)) by unfold ptrs; rw [List.getElem?_map, hp]; rfl)
              have hml : (m : Int) < (js.length : Int) := by omega
              have hB : Blk wr p 146 (taskC j.A j.g.length j.cp j.a j.n j.bud (Vx m).1 (Vx m).2 (stR js s.toNat q m)) := by
                have h := HT.out.blk m j p hj hp
                simp only [Nat.lt_irrefl, if_false] at h
                exact h
              have HOV := Lib.hid (jover_any hB)
              have HB := Lib.hid hB
              have HJ := Lib.hid hj
              have HP := Lib.hid hp
              have had : ad.block < wr.heap.size := hab
              clear hcell hB hj hp
              obtain ⟨ov, hov⟩ : ∃ ov, overJ (stR js s.toNat q m) = ov := ⟨_, rfl⟩
              rw [hov] at HOV
              go_wp2_with fail
              refine HOV.out.mono ?_
              rintro e w3 ⟨rfl, hb3⟩
              have hw3 : Below w.heap.size w w3 := hwx.trans (hb3.mono (by omega))
              cases ov with
              | true =>
                have hT3 := (HT.out.below hb3).congr (st' := fun a => if a < m + 1 then stR js s.toNat (q + 1) a else stR js s.toNat q a) fun i _ => by
                  show (if i < m then _ else _) = (if i < m + 1 then _ else _)
                  rcases Nat.lt_trichotomy i m with h | h | h
                  · rw [if_pos h, if_pos (by omega)]
                  · subst h
                    rw [if_neg (Nat.lt_irrefl _), if_pos (by omega), stR_succ HJ.out]
                    unfold turnJ
                    rw [if_pos hov]
                  · rw [if_neg (by omega), if_neg (by omega)]
                have HT3 := Lib.hid hT3
                have HO3 := Lib.hid (own_below HO.out hb3)
                clear hT3 hb3
                go_wp2
                go_roundw
                case rel => exact ⟨m + 1, Vx, by omega, by go_num, hw3, HO3, HT3⟩
                case measure => simp [intOf]; omega
              | false =>
                have hjok := HOKS.out.2.2 j (List.mem_of_getElem? HJ.out)
                have hJ := HIN.out j (List.mem_of_getElem? HJ.out)
                obtain ⟨kk, hkk, hk6, hk5⟩ := hjok.look.2.2
                have hax : stR js s.toNat q m = turnsJ (accG j.g) j.a.data.toList kk s.toNat q (startJ j.bud.toNat) := by simp only [stR, HJ.out, Jb.after, hkk, Int.toNat_natCast]
                have hcu : CurOk j.a.data.toList kk (stR js s.toNat q m).cur := by rw [hax]; exact turns_cur hjok.look.2.1 hk6
                have hle : (stR js s.toNat q m).left ≤ 1048576 := by
                  rw [hax]
                  have h1 := turns_left (acc := accG j.g) (n := kk) (s := s.toNat) (B := j.bud.toNat) (r := q) hjok.look.2.1 hk6
                  have h2 := hjok.hi
                  omega
                have hfl : (stR js s.toNat q m).found.length ≤ 1048576 := by
                  rw [hax]
                  have h1 := turns_len (acc := accG j.g) (n := kk) (s := s.toNat) (B := j.bud.toNat) (r := q) hjok.look.2.1 hk6
                  rw [size_list] at h1
                  omega
                have hT3 := HT.out.below hb3
                have hO3 := own_below HO.out hb3
                have hst : (fun a => if a < m then stR js s.toNat (q + 1) a else stR js s.toNat q a) m = stR js s.toNat q m := by simp
                have hown := hT3.own m (by omega)
                have hB3 := HB.out.below hb3 HB.out.lt
                rw [hkk] at hB3
                have hlk := hjok.look
                rw [hkk] at hlk
                have hwk := work_any hJ.gr hJ.wf hw3 j.a hJ.az kk hk6 j.bud hlk (base := w.heap.size) hw3.size hB3 (by have h := hown; unfold fnV at h; simp only [Nat.lt_irrefl, if_false] at h; exact h) hcu hle hfl s.toNat (by omega)
                rw [Int.toNat_of_nonneg (show (0 : Int) ≤ s by omega)] at hwk
                have HWK := Lib.hid hwk
                have HT3 := Lib.hid hT3
                have HO3 := Lib.hid hO3
                have HB3 := Lib.hid hB3
                have hz3 := hw3.size
                have HKK := Lib.hid hkk
                have HST := Lib.hid hst
                clear hwk hT3 hO3 hown hB3 hcu hle hfl hax hb3 hlk hjok hJ hk5 hkk hst
                go_wp2_with fail
                refine HWK.out.mono ?_
                rintro e w4 hW
                have hW' : WorkQ j.A j.g.length j.cp j.a j.n j.bud w.heap.size p (Vx m).1 (Vx m).2 ((fun a => if a < m then stR js s.toNat (q + 1) a else stR js s.toNat q a) m).found.length (workJ (accG j.g) j.a.data.toList kk s.toNat (stR js s.toNat q m)) w3 e w4 := by simp only [Nat.lt_irrefl, if_false]; rw [HKK.out]; exact hW
                obtain ⟨rfl, Vs', hT4, hb4, hbut⟩ := HT3.out.work HJ.out HP.out hW' hz3
                have HT4 := Lib.hid (hT4.congr (st' := fun a => if a < m + 1 then stR js s.toNat (q + 1) a else stR js s.toNat q a) fun i _ => by
                  by_cases him : i = m
                  · subst him
                    rw [upd_same]
                    show _ = (if i < i + 1 then _ else _)
                    rw [if_pos (by omega), stR_succ HJ.out, HKK.out, Int.toNat_natCast]
                    unfold turnJ
                    rw [if_neg (by rw [hov]; simp)]
                  · rw [upd_other _ _ him]
                    show (if i < m then _ else _) = (if i < m + 1 then _ else _)
                    by_cases h : i < m
                    · rw [if_pos h, if_pos (by omega)]
                    · rw [if_neg h, if_neg (by omega)])
                have HO4 := Lib.hid (hbut.own HO3.out (fun e => own_ne_t HB3.out HO3.out (by decide) e.symm) (own_own_ne HO3.out (HT3.out.own m (by omega)) (by decide)))
                have hw4 := hw3.trans hb4
                clear hT4 hb4 hbut hW hW'
                go_wp2
                go_roundw
                case rel => exact ⟨m + 1, Vs', by omega, by go_num, hw4, HO4, HT4⟩
                case measure => simp [intOf]; omega
            · obtain rfl : m = js.length := by omega
              go_wp2
              go_roundw
              case rel => exact ⟨q + 1, Vx, HQ.out, by go_num, hwx, HO, HT.out.congr fun i hi => by simp [show i < js.length by omega]⟩
              case measure => simp [intOf]; omega
        · obtain rfl : r = q := by omega
          rename World => wy
          go_wp2
          go_loopw [16, 92] (fun tv i wx => ∃ (m : Nat) (U : Option Addr) (uc : Nat), m ≤ js.length ∧ i = .int .i64 m ∧ tv = .slice U m uc ∧ Below w.heap.size w wx ∧ Hid (wx.ownsRow w.heap.size 144 1 (.slice V js.length c) js.length (ptrs ps)) ∧ Hid (Tk js (stR js s.toNat q) w.heap.size ps Vs wx) ∧ Hid (wx.ownsRow w.heap.size 75 4 (.slice U m uc) m (stF Vs (stR js s.toNat q) m))) (fun _ i _ => js.length - (intOf i).toNat)
          case atStart => exact ⟨0, none, 0, by omega, rfl, rfl, hwq, HO, HT, World.ownsRow_nil _ _ _ _⟩
          case round =>
            clear HO HT hwq hwz
            obtain ⟨m, U, uc, hm, rfl, rfl, hwx, HO, HT, HU⟩ := hrel
            have hwz := hwx.size
            by_cases hmn : m < js.length
            · obtain ⟨ad, rfl, hab, hcell⟩ := (Reads.of_own HO.out).lies (by omega)
              obtain ⟨j, hj⟩ : ∃ j, js[m]? = some j := ⟨_, List.getElem?_eq_getElem hmn⟩
              obtain ⟨p, hp⟩ : ∃ p, ps[m]? = some p := ⟨_, List.getElem?_eq_getElem (by omega)⟩
              have y0 := hcell m _ (show (ptrs ps)[m]? = some (.pointer (some ⟨p, 0, none⟩)) by unfold ptrs; rw [List.getElem?_map, hp]; rfl)
              have hml : (m : Int) < (js.length : Int) := by omega
              have hB := HT.out.blk m j p hj hp
              have had : ad.block < wr.heap.size := hab
              have hpl := hB.lt
              obtain ⟨x, hx⟩ : ∃ x, stR js s.toNat q m = x := ⟨_, rfl⟩
              rw [hx] at hB
              have t4 : wr.cell? ⟨p, 4, none⟩ = some (.slice (Vs m).1 x.found.length (Vs m).2) := hB.cell 4
              have t5 : wr.cell? ⟨p, 5, none⟩ = some (.string x.cur.1) := hB.cell 5
              have t6 : wr.cell? ⟨p, 6, none⟩ = some (.bool x.cur.2) := hB.cell 6
              have t7 : wr.cell? ⟨p, 7, none⟩ = some (.int .i64 x.left) := hB.cell 7
              have HX := Lib.hid hx
              clear hcell hB hj hp hx
              obtain ⟨iu, hiu, huz0, huz1, huz2⟩ := info_parts st_info
              go_wp2_with (at_builtin; refine wpList_append_own _ rfl _ _ _ rfl w.heap.size 75 iu _ 4 56 Try.underlying69 hiu huz0 huz1 huz2 rfl (by decide) _ _ _ rfl (HU.out.alloc _) ⟨wr.heap.size, 0, none⟩ 1 1 (stC (Vs m) x) rfl rfl (new_cells wr 75 (stC (Vs m) x)) (by simp [stC, fnV, Value.oneCell']) (by unfold maxLen; omega) (by omega) (by simp; omega) ?_; intro v' w4 hown4 hgr4 _; obtain ⟨V4, c4, rfl⟩ := own_form hown4)
              have hw4 : Below w.heap.size w w4 := below_app (hwx.alloc (by omega) _) (HU.out.alloc _) hgr4 (by simp; omega) (by omega)
              have HT4 := Lib.hid ((HT.out.below ((Below.refl _ wr).alloc (Nat.le_refl _) (.cells (stC (Vs m) x).toArray 75))).grown (HU.out.alloc _) (by decide) (by decide) hgr4)
              have HO4 := Lib.hid ((HO.out.alloc (.cells (stC (Vs m) x).toArray 75)).kept hgr4 (own_own_ne (HO.out.alloc (.cells (stC (Vs m) x).toArray 75)) (HU.out.alloc (.cells (stC (Vs m) x).toArray 75)) (by decide)))
              have hsf : stF Vs (stR js s.toNat q) m ++ stC (Vs m) x = stF Vs (stR js s.toNat q) (m + 1) := by
                unfold stF
                rw [List.range_succ, List.flatMap_append, ← HX.out]
                simp
              rw [hsf] at hown4
              have HU4 := Lib.hid hown4
              clear hown4 hgr4 hsf
              go_roundw
              case rel => exact ⟨m + 1, V4, c4, by omega, by go_num, rfl, hw4, HO4, HT4, HU4⟩
              case measure => simp [intOf]; omega
            · obtain rfl : m = js.length := by omega
              have hJ : ∀ W, Below w.heap.size w W → W = wr → JrunQ js s q w (.returned (.tuple #[.slice U js.length uc, .int .i64 0])) W := fun W hb e => by
                subst e
                exact ⟨hb, .inr ⟨HOKS.out, U, uc, Vs, rfl, by rw [Int.toNat_natCast]; exact HU.out, fun i hi => by rw [Int.toNat_natCast]; exact HT.out.own i (by omega)⟩⟩
              have HJ := Lib.hid hJ
              clear hJ HU HT HO
              go_wp2
              first | (go_ret2; exact HJ.out _ hwx rfl) | exact HJ.out _ hwx rfl
end Go.Proofs.Ytlamphneimpdlaa
