/- What event.Of answers. -/
import Derived.Test.YtphfckihdhmhpaaTr2
namespace Go.Proofs.Ytphfckihdhmhpaa
open Go.RowKit

theorem own_new {w : World} {base : Nat} {e : TypeId} {size n c : Nat} {cs : Array Value} {xs : List Value} {g : Nat} (hb : Blk w g e cs) (hg : base ≤ g) (hx : cs.toList = xs) (hn : xs.length = n * size) (hnc : n ≤ c) (hcs : cs.size = c * size) (hm : c ≤ maxLen) :
    w.ownsRow base e size (.slice (some ⟨g, 0, none⟩) n c) n xs :=
  ⟨hn, .inr ⟨g, c, cs, rfl, hg, hb, hnc, hm, hcs, by rw [hx, List.take_of_length_le (by omega)]⟩⟩

theorem own_mono {w : World} {base base' : Nat} {e : TypeId} {size n : Nat} {v : Value} {xs : List Value} (h : w.ownsRow base e size v n xs) (hb : base' ≤ base) : w.ownsRow base' e size v n xs :=
  ⟨h.1, h.2.imp id fun ⟨g, cap, cur, h1, h2, h3⟩ => ⟨g, cap, cur, h1, Nat.le_trans hb h2, h3⟩⟩

set_option maxRecDepth 100000 in
theorem of_any (t : Tr) : ∀ (cs : List Value) (w : World) (S : Nat → Prop), TrIs w S t cs → (∀ b, S b → b < w.heap.size) → trNodes t ≤ 1048576 →
    Calls Try.prog 25 #[.agg cs.toArray] w fun e w' => (∃ V c, e = .returned (.slice V (evs t).length c) ∧ w'.ownsRow w.heap.size 81 3 (.slice V (evs t).length c) (evs t).length (evCells (evs t))) ∧ Below w.heap.size w w' := by
  refine Tr.ind (P := fun t => ∀ (cs : List Value) (w : World) (S : Nat → Prop), TrIs w S t cs → (∀ b, S b → b < w.heap.size) → trNodes t ≤ 1048576 →
    Calls Try.prog 25 #[.agg cs.toArray] w fun e w' => (∃ V c, e = .returned (.slice V (evs t).length c) ∧ w'.ownsRow w.heap.size 81 3 (.slice V (evs t).length c) (evs t).length (evCells (evs t))) ∧ Below w.heap.size w w') ?_ t
  intro r f u ks ih cs w S ht hS hsz
  obtain ⟨i0, hi0, hz0, hz1, hz2⟩ := info_parts ev_info
  have hsz' := hsz
  rw [trNodes] at hsz'
  have hlen := trAll_len ks
  have HEV : Hid ((evs (.mk r f u ks)) = ((1, r, f) :: evsAll ks) ++ [(2, r, u)]) := by show _ = _; rw [evs]; rfl
  have HLA := Lib.hid (evsAll_len ks (fun t _ => evs_len t))
  generalize evs (.mk r f u ks) = E at HEV ⊢
  have IH := Lib.hid ih
  cases ht with
  | mk _ _ _ _ A cp row hl hm hb hr hc =>
  have HRow := Lib.hid hr
  have HC := Lib.hid hc
  have HBk := Lib.hid hb
  have MEM := Lib.hid (trAll_mem ks)
  clear ih hr hc hb hsz
  go_enter Try.func25, Try.ntmps25
  go_wp2
  go_loopw [3, 5, 15] (fun v _ i wr => ∃ j m : Nat, j ≤ ks.length ∧ i = .int .i64 j ∧ (∃ V cp, v = .slice V m cp ∧ wr.ownsRow (w.heap.size + 1) 81 3 (.slice V m cp) m (evCells ((1, r, f) :: evsAll (ks.take j)))) ∧ Hid (m = 1 + 2 * trAll (ks.take j)) ∧ Below w.heap.size w wr ∧ Blk wr w.heap.size 42 #[.int .i64 r, .int .i64 f, .int .i64 u, .slice A ks.length cp]) (fun _ _ i _ => ks.length - (intOf i).toNat)
  case atStart =>
    exact ⟨0, 1, by omega, rfl, ⟨_, 1, rfl, own_new (cs := #[.int .i64 1, .int .i64 r, .int .i64 f]) (blk_at (by simp)) (Nat.le_refl _) rfl rfl (by omega) rfl (by unfold maxLen; omega)⟩, rfl, (by repeat (first | exact Below.refl _ _ | assumption | refine Below.drew ?_ | refine below_drewN ?_ _ | refine Below.alloc ?_ (by first | omega | (simp; omega) | simp) _ | refine Below.setCell ?_ (by first | omega | (simp; omega) | simp) _)), (blk_at rfl).alloc _⟩
  case round =>
    obtain ⟨j, m, hj, rfl, ⟨V, vp, rfl, hown⟩, HM, hwr, hbx⟩ := hrel
    by_cases hjk : j < ks.length
    · have HD : Hid (ks.take (j + 1) = ks.take j ++ [ks[j]]) := by
        show _ = _
        exact take_succ_of (List.getElem?_eq_getElem hjk)
      have HTA : Hid (2 * trAll (ks.take j) + (evs ks[j]).length ≤ 2 * trAll ks) := by
        show _ ≤ _
        have h1 := evsAll_len (ks.take j ++ [ks[j]]) (fun t _ => evs_len t)
        have h2 := trAll_take ks (j + 1)
        rw [← HD.out] at h1
        have h3 := evsAll_snoc ks[j] (ks.take j)
        rw [← HD.out] at h3
        rw [h3, List.length_append, evsAll_len (ks.take j) (fun t _ => evs_len t)] at h1
        omega
      have hej0 : ks[j]? = some ks[j] := List.getElem?_eq_getElem hjk
      have HPos : Hid (0 < (evs ks[j]).length) := by
        show _ < _
        rw [evs_len]
        cases ks[j] with
        | mk => rw [trNodes]; omega
      have HTwo : Hid ((evs ks[j]).length = 2 * trNodes ks[j]) := evs_len _
      replace HD : Hid (ks.take (j + 1) = ks.take j ++ [ks[j]] ∧ 2 * trAll (ks.take j) + (evs ks[j]).length ≤ 2 * trAll ks ∧ 0 < (evs ks[j]).length ∧ (evs ks[j]).length = 2 * trNodes ks[j]) := ⟨HD.out, HTA.out, HPos.out, HTwo.out⟩
      clear HTA HPos HTwo hej0
      have hej : ks[j]? = some ks[j] := List.getElem?_eq_getElem hjk
      generalize ks[j] = ej at hej HD
      obtain ⟨ad, rfl, hab⟩ := HBk.out (by omega)
      have hT := (HRow.out j ej hej).keep (fun _ h => h) (fun p hp => hwr.cell (hS _ hp))
      have hcj := HC.out j ej ad hej rfl
      have hmem := List.mem_of_getElem? hej
      generalize row j = rj at hT hcj
      cases ej with
      | mk r' f' u' ks' =>
      have hT2 := hT
      cases hT with
      | mk _ _ _ _ A' cp' row' hl' hm' hb' hr' hc' =>
      have hcc : ∀ i v, [Value.int .i64 r', .int .i64 f', .int .i64 u', .slice A' ks'.length cp'][i]? = some v → wr.cell? ((ad.add (j * 4)).add i) = some v := by
        intro i v hv
        rw [hwr.cell (by rw [add_block, add_block]; exact hS _ hab)]
        exact hcj i v hv
      have e0 : wr.cell? (ad.add (j * 4)) = some (.int .i64 r') := hcc 0 _ rfl
      have e1 : wr.cell? ⟨(ad.add (j * 4)).block, (ad.add (j * 4)).off + 1, none⟩ = some (.int .i64 f') := hcc 1 _ rfl
      have e2 : wr.cell? ⟨(ad.add (j * 4)).block, (ad.add (j * 4)).off + 2, none⟩ = some (.int .i64 u') := hcc 2 _ rfl
      have e3 : wr.cell? ⟨(ad.add (j * 4)).block, (ad.add (j * 4)).off + 3, none⟩ = some (.slice A' ks'.length cp') := hcc 3 _ rfl
      clear hcc hcj hej hr' hc' hb'
      have hwz := hwr.size
      have hk1 := MEM.out _ hmem
      have hcall : ∀ o : Obj, Calls Try.prog 25 #[.agg #[.int .i64 r', .int .i64 f', .int .i64 u', .slice A' ks'.length cp']] (wr.alloc o) fun e w' => (∃ V c, e = .returned (.slice V (evs (.mk r' f' u' ks')).length c) ∧ w'.ownsRow (wr.alloc o).heap.size 81 3 (.slice V (evs (.mk r' f' u' ks')).length c) (evs (.mk r' f' u' ks')).length (evCells (evs (.mk r' f' u' ks')))) ∧ Below (wr.alloc o).heap.size (wr.alloc o) w' := fun o =>
        IH.out _ hmem _ (wr.alloc o) S (hT2.keep (fun _ h => h) (fun p hp => World.cell?_alloc_lt _ _ _ (by have := hS _ hp; omega))) (fun b h => by have := hS _ h; simp; omega) (by omega)
      have HCall := Lib.hid hcall
      obtain ⟨d1, d2, d3, d4⟩ := HD.out
      have HES := Lib.hid (evsAll_snoc (.mk r' f' u' ks') (ks.take j))
      rw [← d1] at HES
      have D1 := Lib.hid d1
      generalize evs (.mk r' f' u' ks') = F at HCall HES d2 d3 d4
      have hm3 : m + F.length ≤ 4194304 := by have := HM.out; omega
      have HM2 : Hid (m + F.length = 1 + 2 * trAll (ks.take (j + 1))) := by
        show _ = _
        have h1 := evsAll_len (ks.take (j + 1)) (fun t _ => evs_len t)
        rw [HES.out, List.length_append, evsAll_len (ks.take j) (fun t _ => evs_len t)] at h1
        have := HM.out
        omega
      clear hcall hT2 HD hk1 d1 d2 d4
      go_wp2_with fail
      refine (HCall.out _).mono ?_
      rintro e w2 ⟨⟨V2, c2, rfl, hown2⟩, hb2⟩
      have hw2 : Below w.heap.size w w2 := Below.trans (by repeat (first | exact Below.refl _ _ | assumption | refine Below.drew ?_ | refine below_drewN ?_ _ | refine Below.alloc ?_ (by first | omega | (simp; omega) | simp) _ | refine Below.setCell ?_ (by first | omega | (simp; omega) | simp) _)) (hb2.mono (by first | omega | (simp; omega) | simp))
      have hbx2 := (hbx.alloc (.cells #[.int .i64 r', .int .i64 f', .int .i64 u', .slice A' ks'.length cp'] 42)).below hb2 (by have := hbx.lt; simp; omega)
      have hown3 := own_below (hown.alloc _) hb2
      clear hb2 hbx hown
      obtain ⟨g2, c2', hv2, _, hlt2⟩ := hown2.form d3
      simp only [Value.slice.injEq] at hv2
      obtain ⟨rfl, -, rfl⟩ := hv2
      have C2 := Lib.hid (hown2.cells (g := g2) rfl)
      have hsw := hw2.size
      clear hown2
      go_wp2_with (at_builtin; refine wpList_append_lies _ rfl _ _ _ rfl (w.heap.size + 1) 81 i0 _ 3 24 Try.underlying57 hi0 hz0 hz1 hz2 rfl (by omega) (.slice V m vp) m _ rfl hown3 ⟨g2, 0, none⟩ F.length c2 (evCells F) rfl (evCells_len F) C2.out (evCells_one F) d3 (by unfold maxLen; omega) (by omega) (by have := hbx2.lt; omega) _ rfl ?_; intro g3 cap w3 hown4 hgrow hat hlt)
      go_roundw
      case rel =>
        refine ⟨j + 1, m + F.length, by omega, by go_num, ⟨_, cap, rfl, ?_⟩, HM2, below_app hw2 hown3 hgrow hsw (by omega), hbx2.grown hgrow (own_ne hown3 (by omega))⟩
        rw [HES.out, ← List.cons_append, evCells_app]
        exact hown4
      case measure => simp [intOf]; omega
    · obtain rfl : j = ks.length := by omega
      have hx0 : wr.cell? ⟨w.heap.size, 0, none⟩ = some (.int .i64 r) := hbx.cell 0
      have hx2 : wr.cell? ⟨w.heap.size, 2, none⟩ = some (.int .i64 u) := hbx.cell 2
      have hbl := hbx.lt
      have hta : ks.take ks.length = ks := List.take_length
      rw [hta] at HM hown
      have hm3 : m ≤ 4194304 := by have := HM.out; omega
      have hwz := hwr.size
      clear hta
      go_wp2_with (at_builtin; refine wpList_append_lies _ rfl _ _ _ rfl (w.heap.size + 1) 81 i0 _ 3 24 Try.underlying57 hi0 hz0 hz1 hz2 rfl (by omega) (.slice V m vp) m _ rfl (hown.alloc _) ⟨wr.heap.size, 0, none⟩ 1 1 (evCells [(2, r, u)]) rfl rfl (World.news_of_block (cs := #[.int .i64 2, .int .i64 r, .int .i64 u]) (t := 81) (fr := (0, 0)) (heap_alloc_new wr _)) (evCells_one _) (by omega) (by unfold maxLen; omega) (by omega) (by simp; omega) _ rfl ?_; intro g3 cap w3 hown4 hgrow hat hlt)
      go_ret
      have he : E.length = m + 1 := by
        have h1 := congrArg List.length HEV.out
        have h2 := HM.out
        have h3 := HLA.out
        simp at h1
        omega
      refine ⟨⟨some ⟨g3, 0, none⟩, cap, by rw [he]; rfl, ?_⟩, below_app (hwr.alloc hwz _) (hown.alloc _) hgrow (by simp; omega) (by omega)⟩
      rw [he, HEV.out, evCells_app]
      exact own_mono hown4 (by omega)
end Go.Proofs.Ytphfckihdhmhpaa
