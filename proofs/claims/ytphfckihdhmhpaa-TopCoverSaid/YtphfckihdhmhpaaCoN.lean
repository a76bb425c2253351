/- gram.Nodes, of a grammar that is right. -/
import Derived.Test.YtphfckihdhmhpaaChO
import Derived.Test.YtphfckihdhmhpaaGH
import Derived.Test.YtphfckihdhmhpaaPkV
namespace Go.Proofs.Ytphfckihdhmhpaa
open Go.RowKit

def nodesC (g : List Rl) : Nat := (g.map fun r => nodes r.2).sum
theorem nodes_sumC {g : List Rl} {j : Nat} {r : Rl} (h : g[j]? = some r) : ((g.drop j).map fun r => nodes r.2).sum = nodes r.2 + ((g.drop (j + 1)).map fun r => nodes r.2).sum := by
  rw [drop_of h, List.map_cons, List.sum_cons]
set_option maxRecDepth 100000 in
set_option maxHeartbeats 2000000 in
theorem gnodesC_any {g : List Rl} {A : Option Addr} {cp : Nat} {row : Nat → List Value} {w : World} (h : GrIs w w.heap.size g A cp row) (R : RightG g) :
    Calls Try.prog 64 #[.agg #[.slice A g.length cp]] w fun e w' => e = .returned (.tuple #[.int .i64 (nodesC g), .int .i64 0]) ∧ Below w.heap.size w w' := by
  have hck := fun W (hW : Below w.heap.size w W) => gcheck_any (h.grow hW)
  rw [check_ofC R] at hck
  have hsz : ∀ (j : Nat) (nm : ByteArray) (k' a' b' c' d' : Int) (t' : ByteArray) (ks' : List Ex) (A' : Option Addr) (cp' : Nat) (W : World), Below w.heap.size w W → g[j]? = some (nm, .mk k' a' b' c' d' t' ks') → ExIs w w.heap.size (.mk k' a' b' c' d' t' ks') (exCells k' a' b' c' d' t' A' ks'.length cp') →
      Calls Try.prog 85 #[.agg #[.int .i64 k', .int .u64 a', .int .u64 b', .int .u64 c', .int .u64 d', .string t', .slice A' ks'.length cp']] W fun r w' => r = .returned (.tuple #[.int .i64 (nodes (.mk k' a' b' c' d' t' ks')), .int .i64 0]) ∧ Below W.heap.size W w' := fun j nm k' a' b' c' d' t' ks' A' cp' W hW hej hx => by
    have h1 := size_expr _ _ W (hx.grow hW)
    rw [sizeE_of, if_pos (R.body _ (List.mem_of_getElem? hej))] at h1
    exact h1
  have h10 := R.ten
  have h120 := R.nodes
  have hgcap := h.cap
  unfold maxLen at hgcap
  have HCK := Lib.hid hck
  have HSZ := Lib.hid hsz
  have HG := Lib.hid h
  have HN : Hid (nodesC g = (g.map fun r => nodes r.2).sum) := by exact rfl
  generalize nodesC g = tot at HN ⊢
  rw [← HN.out] at h120
  clear hck hsz h R
  go_enter Try.func64, Try.ntmps64
  go_wp2_with fail
  refine (HCK.out _ (by repeat (first | exact Below.refl _ _ | assumption | refine Below.drew ?_ | refine below_drewN ?_ _ | refine Below.alloc ?_ (by first | omega | (simp; omega) | simp) _ | refine Below.setCell ?_ (by first | omega | (simp; omega) | simp) _))).mono ?_
  rintro e w1 ⟨rfl, hb1⟩
  have hgx1 : Blk w1 w.heap.size 24 #[.slice A g.length cp] := (blk_at rfl).below hb1 (by first | omega | (simp; omega) | simp)
  have hw1 : Below w.heap.size w w1 := Below.trans (by repeat (first | exact Below.refl _ _ | assumption | refine Below.drew ?_ | refine below_drewN ?_ _ | refine Below.alloc ?_ (by first | omega | (simp; omega) | simp) _ | refine Below.setCell ?_ (by first | omega | (simp; omega) | simp) _)) (hb1.mono (by first | omega | (simp; omega) | simp))
  have g0 : w1.cell? ⟨w.heap.size, 0, none⟩ = some (.slice A g.length cp) := hgx1.cell 0
  have hs1 := hgx1.lt
  clear hb1 hgx1
  go_wp2
  go_loopw [5, 18] (fun v i wr => ∃ j n : Nat, j ≤ g.length ∧ v = .int .i64 n ∧ i = .int .i64 j ∧ Hid (n + ((g.drop j).map fun r => nodes r.2).sum = tot) ∧ Below w.heap.size w wr) (fun _ i _ => g.length - (intOf i).toNat)
  case atStart => exact ⟨0, 0, by omega, rfl, rfl, (by show _ = _; rw [Nat.zero_add, HN.out]; rfl), hw1⟩
  case round =>
    obtain ⟨j, n, hj, rfl, rfl, HS, hwr⟩ := hrel
    have hzw := hwr.size
    by_cases hjn : j < g.length
    · obtain ⟨ad, nm, k', a', b', c', d', t', ks', A', cp', rfl, hab, hej, hnm, hE, hS⟩ := HG.out.rule hjn
      have hcc : Eight wr (ad.add (j * 8)) nm k' a' b' c' d' t' A' ks'.length cp' :=
        have hk := fun (q : Addr) (hq : q.block = (ad.add (j * 8)).block) => hwr.cell (p := q) (by rw [hq, add_block]; omega)
        ⟨(hk _ rfl).trans hS.c0, (hk ⟨_, _, none⟩ rfl).trans hS.c1, (hk ⟨_, _, none⟩ rfl).trans hS.c2, (hk ⟨_, _, none⟩ rfl).trans hS.c3, (hk ⟨_, _, none⟩ rfl).trans hS.c4, (hk ⟨_, _, none⟩ rfl).trans hS.c5, (hk ⟨_, _, none⟩ rfl).trans hS.c6, (hk ⟨_, _, none⟩ rfl).trans hS.c7⟩
      obtain ⟨y0, y1, y2, y3, y4, y5, y6, y7⟩ := hcc
      have had1 : ad.block < wr.heap.size := by omega
      have hjl : (j : Int) < (g.length : Int) := by omega
      have hc1 := fun W hW => HSZ.out j nm k' a' b' c' d' t' ks' A' cp' W hW hej hE
      have HS2 : Hid (n + nodes (.mk k' a' b' c' d' t' ks') + ((g.drop (j + 1)).map fun r => nodes r.2).sum = tot) := by
        have h1 := HS.out
        rw [nodes_sumC hej] at h1
        show _ = _
        simp only at h1
        omega
      generalize nodes (.mk k' a' b' c' d' t' ks') = y at HS2 hc1
      have hyt : n + y ≤ 120 := by have := HS2.out; omega
      have HC1 := Lib.hid hc1
      clear hc1 hS hE hej hnm
      go_wp2_with fail
      refine (HC1.out _ (by repeat (first | exact Below.refl _ _ | assumption | refine Below.drew ?_ | refine below_drewN ?_ _ | refine Below.alloc ?_ (by first | omega | (simp; omega) | simp) _ | refine Below.setCell ?_ (by first | omega | (simp; omega) | simp) _))).mono ?_
      rintro e w2 ⟨rfl, hb2⟩
      have h12 : Below w.heap.size w w2 := (hwr.alloc hzw _).trans (hb2.mono (by simp; omega))
      clear hb2
      go_wp2
      go_roundw
      case rel => exact ⟨j + 1, n + y, by omega, by go_num, by go_num, HS2.out, h12⟩
      case measure => simp [intOf]; omega
    · obtain rfl : j = g.length := by omega
      have hnt : n = tot := by have := HS.out; rw [List.drop_length] at this; simpa using this
      subst hnt
      go_wp2
      first | (go_ret2; exact ⟨rfl, hwr⟩) | exact ⟨rfl, hwr⟩
end Go.Proofs.Ytphfckihdhmhpaa
