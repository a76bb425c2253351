/- What tree.Count and event.Of answer. -/
import Derived.Test.YtkoenjnjkapfmaaTr1
namespace Go.Proofs.Ytkoenjnjkapfmaa
open Go.RowKit

/-- an event: kind, rule, at -/
abbrev Ev := Int × Int × Int
mutual
def evs : Tr → List Ev
  | .mk r f u ks => (1, r, f) :: (evsAll ks ++ [(2, r, u)])
def evsAll : List Tr → List Ev
  | [] => []
  | t :: ts => evs t ++ evsAll ts
end
theorem evsAll_len : ∀ (ks : List Tr), (∀ t ∈ ks, (evs t).length = 2 * trNodes t) → (evsAll ks).length = 2 * trAll ks
  | [], _ => rfl
  | t :: ks, h => by
    rw [evsAll, List.length_append, h t (by simp), evsAll_len ks (fun t' ht => h t' (by simp [ht])), trAll]
    omega
theorem evs_len (t : Tr) : (evs t).length = 2 * trNodes t := by
  refine Tr.ind (P := fun t => (evs t).length = 2 * trNodes t) ?_ t
  intro r f u ks ih
  rw [evs, trNodes, List.length_cons, List.length_append, evsAll_len ks ih]
  simp; omega
theorem evsAll_snoc (t : Tr) : ∀ ks : List Tr, evsAll (ks ++ [t]) = evsAll ks ++ evs t
  | [] => by simp [evsAll]
  | t' :: ks => by
    show evsAll (t' :: (ks ++ [t])) = _
    rw [evsAll, evsAll, evsAll_snoc t ks, List.append_assoc]
theorem trAll_take : ∀ (ks : List Tr) (j : Nat), trAll (ks.take j) ≤ trAll ks
  | [], j => by simp [trAll]
  | t :: ks, 0 => by simp [trAll]
  | t :: ks, j + 1 => by
    rw [List.take_succ_cons, trAll, trAll]
    have := trAll_take ks j
    omega

set_option maxRecDepth 100000 in
theorem count_any (t : Tr) : ∀ (cs : List Value) (w : World) (S : Nat → Prop), TrIs w S t cs → (∀ b, S b → b < w.heap.size) → trNodes t ≤ 1099511627776 →
    Calls Try.prog 25 #[.agg cs.toArray] w fun e w' => e = .returned (.int .i64 (trNodes t)) ∧ Below w.heap.size w w' := by
  refine Tr.ind (P := fun t => ∀ (cs : List Value) (w : World) (S : Nat → Prop), TrIs w S t cs → (∀ b, S b → b < w.heap.size) → trNodes t ≤ 1099511627776 →
    Calls Try.prog 25 #[.agg cs.toArray] w fun e w' => e = .returned (.int .i64 (trNodes t)) ∧ Below w.heap.size w w') ?_ t
  intro r f u ks ih cs w S ht hS hsz
  rw [trNodes] at hsz ⊢
  have hlen := trAll_len ks
  have IH := Lib.hid ih
  cases ht with
  | mk _ _ _ _ A cp row hl hm hb hr hc =>
  have HRow := Lib.hid hr
  have HC := Lib.hid hc
  have HBk := Lib.hid hb
  have MEM := Lib.hid (trAll_mem ks)
  clear ih hr hc hb
  go_enter Try.func25, Try.ntmps25
  go_wp2
  go_loopw [3, 5, 9] (fun n _ i wr => ∃ j N : Nat, j ≤ ks.length ∧ i = .int .i64 j ∧ n = .int .i64 N ∧ Hid (N + trAll (ks.drop j) = 1 + trAll ks) ∧ N ≤ 1099511627776 ∧ Below w.heap.size w wr) (fun _ _ i _ => ks.length - (intOf i).toNat)
  case atStart => exact ⟨0, 1, by omega, rfl, rfl, rfl, by omega, (by repeat (first | exact Below.refl _ _ | assumption | refine Below.drew ?_ | refine below_drewN ?_ _ | refine Below.alloc ?_ (by first | omega | (simp; omega) | simp) _ | refine Below.setCell ?_ (by first | omega | (simp; omega) | simp) _))⟩
  case round =>
    obtain ⟨j, N, hj, rfl, rfl, HN, hN, hwr⟩ := hrel
    by_cases hjk : j < ks.length
    · have HD : Hid (trAll (ks.drop j) = trNodes ks[j] + trAll (ks.drop (j + 1))) := by
        show _ = _
        rw [List.drop_eq_getElem_cons hjk, trAll]
      have hej : ks[j]? = some ks[j] := List.getElem?_eq_getElem hjk
      generalize ks[j] = ej at hej HD
      obtain ⟨ad, rfl, hab⟩ := HBk.out (by omega)
      have hT := (HRow.out j ej hej).keep (fun _ h => h) (fun p hp => hwr.cell (hS _ hp))
      have hcj := HC.out j ej ad hej rfl
      have hmem := List.mem_of_getElem? hej
      generalize row j = rj at hT hcj
      cases ej with
      | mk r' f' u' ks' =>
      have hT2 := hT
      cases hT with
      | mk _ _ _ _ A' cp' row' hl' hm' hb' hr' hc' =>
      have hcc : ∀ i v, [Value.int .i64 r', .int .i64 f', .int .i64 u', .slice A' ks'.length cp'][i]? = some v → wr.cell? ((ad.add (j * 4)).add i) = some v := by
        intro i v hv
        rw [hwr.cell (by rw [add_block, add_block]; exact hS _ hab)]
        exact hcj i v hv
      have e0 : wr.cell? (ad.add (j * 4)) = some (.int .i64 r') := hcc 0 _ rfl
      have e1 : wr.cell? ⟨(ad.add (j * 4)).block, (ad.add (j * 4)).off + 1, none⟩ = some (.int .i64 f') := hcc 1 _ rfl
      have e2 : wr.cell? ⟨(ad.add (j * 4)).block, (ad.add (j * 4)).off + 2, none⟩ = some (.int .i64 u') := hcc 2 _ rfl
      have e3 : wr.cell? ⟨(ad.add (j * 4)).block, (ad.add (j * 4)).off + 3, none⟩ = some (.slice A' ks'.length cp') := hcc 3 _ rfl
      clear hcc hcj hej hr' hc' hb'
      have hwz := hwr.size
      have hk1 := MEM.out _ hmem
      have hcall : ∀ o : Obj, Calls Try.prog 25 #[.agg #[.int .i64 r', .int .i64 f', .int .i64 u', .slice A' ks'.length cp']] (wr.alloc o) fun e w' => e = .returned (.int .i64 (trNodes (.mk r' f' u' ks'))) ∧ Below (wr.alloc o).heap.size (wr.alloc o) w' := fun o =>
        IH.out _ hmem _ (wr.alloc o) S (hT2.keep (fun _ h => h) (fun p hp => World.cell?_alloc_lt _ _ _ (by have := hS _ hp; omega))) (fun b h => by have := hS _ h; simp; omega) (by omega)
      have HCall := Lib.hid hcall
      have hN2 : N + trNodes (.mk r' f' u' ks') + trAll (ks.drop (j + 1)) = 1 + trAll ks := by have h1 := HN.out; have h2 := HD.out; omega
      have HN2 := Lib.hid hN2
      have hN3 : N + trNodes (.mk r' f' u' ks') ≤ 1099511627776 := by omega
      clear hcall hT2 hN2 HD hk1
      generalize trNodes (.mk r' f' u' ks') = M at HCall HN2 hN3
      go_wp2_with fail
      refine (HCall.out _).mono ?_
      rintro e w2 ⟨rfl, hb2⟩
      have hw2 : Below w.heap.size w w2 := Below.trans (by repeat (first | exact Below.refl _ _ | assumption | refine Below.drew ?_ | refine below_drewN ?_ _ | refine Below.alloc ?_ (by first | omega | (simp; omega) | simp) _ | refine Below.setCell ?_ (by first | omega | (simp; omega) | simp) _)) (hb2.mono (by first | omega | (simp; omega) | simp))
      clear hb2
      go_wp2
      go_roundw
      case rel => exact ⟨j + 1, N + M, by omega, by go_num, by go_num, HN2, hN3, hw2⟩
      case measure => simp [intOf]; omega
    · obtain rfl : j = ks.length := by omega
      have HN2 : Hid (N = 1 + trAll ks) := by
        have h1 := HN.out
        rw [List.drop_length, trAll] at h1
        exact h1
      go_wp2
      go_ret
      exact ⟨ret_int (by rw [HN2.out]), hwr⟩

def evCells (l : List Ev) : List Value := l.flatMap fun v => [.int .i64 v.1, .int .i64 v.2.1, .int .i64 v.2.2]
theorem evCells_app (a b : List Ev) : evCells (a ++ b) = evCells a ++ evCells b := by simp [evCells]
theorem evCells_len : ∀ l : List Ev, (evCells l).length = l.length * 3
  | [] => rfl
  | v :: l => by
    have := evCells_len l
    unfold evCells at this ⊢
    rw [List.flatMap_cons, List.length_append, this]
    simp; omega
theorem evCells_one (l : List Ev) : ∀ u ∈ evCells l, u.oneCell' = true := by
  intro u hu
  unfold evCells at hu
  rw [List.mem_flatMap] at hu
  obtain ⟨v, _, hv⟩ := hu
  simp at hv
  rcases hv with rfl | rfl | rfl <;> rfl
theorem ev_info : (Try.prog.info? 49).map (fun i => (i.zero, i.size, i.bytes)) = some (some (.agg #[.int .i64 0, .int .i64 0, .int .i64 0]), 3, 24) := by kernel_rfl
end Go.Proofs.Ytkoenjnjkapfmaa
