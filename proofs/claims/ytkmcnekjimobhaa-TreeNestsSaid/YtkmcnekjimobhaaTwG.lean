/- TreeNests: nested, and the walk of the law. -/
import Derived.Test.YtkmcnekjimobhaaTwF
import Derived.Test.YtkmcnekjimobhaaXD
namespace Go.Proofs.Ytkmcnekjimobhaa
open Go.RowKit Go.Maps

def trTo : Tr → Int
  | .mk _ _ u _ => u
theorem at_of {g : List Rl} {s : ByteArray} {i p q : Nat} {r : Rl} {v : Option Nat} {x : Int} (h : AtR g i s p v x) (hl : lookG g s = 0) (hr : g[i]? = some r) (hp : p ≤ s.size) (hs : Sem g s.data.toList r.2 p (some q)) : v = some (q - p) ∧ x = 0 := by
  rcases h with ⟨h1, _⟩ | ⟨_, h1, _⟩ | ⟨_, j, q', r', o, h1, h2, h3, h4, h5, h6, h7⟩
  · exact absurd hl h1
  · have := getElem?_lt hr
    omega
  · have e1 : j = i := by omega
    have e2 : q' = p := by omega
    subst e1 e2
    rw [hr] at h4
    injection h4 with h4
    subst h4
    rw [← hs.eq h5] at h6
    exact ⟨h6, h7⟩

set_option maxRecDepth 100000 in
set_option maxHeartbeats 4000000 in
theorem nested_any {g : List Rl} {s : ByteArray} (hl0 : lookG g s = 0) (hwf : ∀ r ∈ g, WfE r.2) (t : Tr) : ∀ (cs : List Value) (w : World) (S : Nat → Prop) (A : Option Addr) (cp : Nat) (row : Nat → List Value), GrIs w w.heap.size g A cp row → TrIs w S t cs → (∀ b, S b → b < w.heap.size) → NestT g s.data.toList t → trTo t ≤ s.size →
    Calls Try.prog 16 #[.agg #[.slice A g.length cp], .string s, .agg cs.toArray] w fun e w' => e = .returned (.bool true) ∧ Below w.heap.size w w' := by
  refine Tr.ind (P := fun t => ∀ (cs : List Value) (w : World) (S : Nat → Prop) (A : Option Addr) (cp : Nat) (row : Nat → List Value), GrIs w w.heap.size g A cp row → TrIs w S t cs → (∀ b, S b → b < w.heap.size) → NestT g s.data.toList t → trTo t ≤ s.size →
    Calls Try.prog 16 #[.agg #[.slice A g.length cp], .string s, .agg cs.toArray] w fun e w' => e = .returned (.bool true) ∧ Below w.heap.size w w') ?_ t
  intro r f u ks ih cs w S A cp row hG hT hS hN hu
  obtain ⟨KA, kcp, rfl, hK⟩ := hT.kids
  cases hN with
  | mk i p q rl n _ hr hev hL =>
  have h60 := (look_zero hl0).2
  have hu' : q ≤ s.size := by have : (q : Int) ≤ s.size := hu; omega
  have hpq := hL.le
  have hps : p ≤ s.size := by omega
  have hm8 : ks.length ≤ 9223372036854775807 := by have := hK.2.1; have := hK.2.2.1; unfold maxLen at this; omega
  have hkc := hK.2.1
  have HAT := Lib.hid (fun W (hW : Below w.heap.size w W) => at_any ((hG.on hW).more hW.size) hwf i s p)
  have HAO := Lib.hid (fun v x (h : AtR g i s p v x) => at_of h hl0 hr hps ⟨n, hev⟩)
  have HG := Lib.hid hG
  have HK := Lib.hid hK
  have HL := Lib.hid hL
  have HS := Lib.hid hS
  have IH := Lib.hid ih
  obtain ⟨N, hqN⟩ : ∃ N, q = p + N := ⟨q - p, by omega⟩
  subst hqN
  clear hG hT hS hu hK hL ih hr hev hl0
  go_enter Try.func16, Try.ntmps16
  go_wp2_with fail
  refine (HAT.out _ (by repeat (first | exact Below.refl _ _ | assumption | refine Below.drew ?_ | refine below_drewN ?_ _ | refine Below.alloc ?_ (by first | omega | (simp; omega) | simp) _ | refine Below.setCell ?_ (by first | omega | (simp; omega) | simp) _))).mono ?_
  rintro e w1 ⟨v, x, hat, rfl, hb1⟩
  obtain ⟨rfl, rfl⟩ := HAO.out _ _ hat
  have hov : outV (some (p + N - p)) = .agg #[.bool true, .int .i64 N] := by rw [show p + N - p = N by omega]; rfl
  rw [hov]
  have hw1 : Below w.heap.size w w1 := (((Below.refl _ w).alloc (Nat.le_refl _) _).alloc (by simp) _).trans (hb1.mono (by simp; omega))
  have hgx : Blk w1 w.heap.size 24 #[.slice A g.length cp] := ((blk_at rfl).alloc _).below hb1 (by simp; omega)
  have htx : Blk w1 (w.heap.size + 1) 27 #[.int .i64 i, .int .i64 p, .int .i64 (p + N : Nat), .slice KA ks.length kcp] := (blk_at (by simp)).below hb1 (by simp)
  have hzw := hw1.size
  have hxl := htx.lt
  clear hb1 hat hov HAT HAO
  have t1 : w1.cell? ⟨w.heap.size + 1, 1, none⟩ = some (.int .i64 p) := htx.cell 1
  have t2 : w1.cell? ⟨w.heap.size + 1, 2, none⟩ = some (.int .i64 (p + N : Nat)) := htx.cell 2
  have t3 : w1.cell? ⟨w.heap.size + 1, 3, none⟩ = some (.slice KA ks.length kcp) := htx.cell 3
  have hgx2 := hgx.alloc (.cells #[.bool true, .int .i64 N] 41)
  have htx2 := htx.alloc (.cells #[.bool true, .int .i64 N] 41)
  have hw2 : Below w.heap.size w (w1.alloc (.cells #[.bool true, .int .i64 N] 41)) := hw1.alloc (by omega) _
  clear hgx htx
  go_wp2
  rename World => ww
  go_loopw [9, 44] (fun av iv wr => ∃ j a : Nat, j ≤ ks.length ∧ iv = .int .i64 j ∧ av = .int .i64 a ∧ Hid (NestL g s.data.toList a (p + N) (ks.drop j)) ∧ Below w.heap.size w wr ∧ Blk wr w.heap.size 24 #[.slice A g.length cp] ∧ Blk wr (w.heap.size + 1) 27 #[.int .i64 i, .int .i64 p, .int .i64 (p + N : Nat), .slice KA ks.length kcp]) (fun _ iv _ => ks.length - (intOf iv).toNat)
  case atStart => exact ⟨0, p, by omega, rfl, rfl, HL, hw2, hgx2, htx2⟩
  case round =>
    clear hw2 hgx2 htx2 t1 t2 t3 hw1
    obtain ⟨j, a, hj, rfl, rfl, HLj, hwr, hgx, htx⟩ := hrel
    by_cases hjk : j < ks.length
    · have hKr := HK.out.keep (w' := wr) (S' := S) (fun _ h => h) fun q hq => hwr.cell (HS.out _ hq)
      obtain ⟨ad, r', f', u', ks', A', cp', rfl, hSa, hej, hT', e0, e1, e2, e3⟩ := hKr.at_ hjk
      have hLj := HLj.out
      rw [drop_of hej] at hLj
      cases hLj with
      | cons _ _ i' p' q' _ _ h1 h2 h3 h4 =>
      have h5 := h4.le
      have hab := HS.out _ hSa
      have hwz := hwr.size
      have hadl : (ad.add (j * 4)).block < wr.heap.size := by rw [add_block]; omega
      have hcall := IH.out (.mk i' p' q' ks') (List.mem_of_getElem? hej) _ (wr.alloc (.cells #[.int .i64 i', .int .i64 p', .int .i64 q', .slice A' ks'.length cp'] 27)) S A cp row ((HG.out.on (hwr.alloc hwz _)).more (by simp; omega)) (hT'.keep (fun _ h => h) fun q hq => World.cell?_alloc_lt _ _ _ (by have := HS.out _ hq; omega)) (fun b hb => by have := HS.out b hb; simp; omega) h3 (by show (q' : Int) ≤ s.size; omega)
      have HC := Lib.hid hcall
      have HLN := Lib.hid h4
      have hn1 : ¬ ((p' : Int) < (a : Int)) := by omega
      have hn2 : ¬ (((p + N : Nat) : Int) < (q' : Int)) := by omega
      have g0 : wr.cell? ⟨w.heap.size, 0, none⟩ = some (.slice A g.length cp) := hgx.cell 0
      have t2 : wr.cell? ⟨w.heap.size + 1, 2, none⟩ = some (.int .i64 (p + N : Nat)) := htx.cell 2
      have hgl := hgx.lt
      have htl := htx.lt
      clear hcall h3 h4 hT' hKr hSa hej HLj
      go_wp2_with fail
      refine HC.out.mono ?_
      rintro e w3 ⟨rfl, hb3⟩
      have hk3 : Blk w3 wr.heap.size 27 #[.int .i64 i', .int .i64 p', .int .i64 q', .slice A' ks'.length cp'] := (blk_at rfl).below hb3 (by simp)
      have hw3 : Below w.heap.size w w3 := (hwr.alloc hwz _).trans (hb3.mono (by simp; omega))
      have hg3 := (hgx.alloc _).below hb3 (by simp; omega)
      have ht3 := (htx.alloc _).below hb3 (by simp; omega)
      have k2 : w3.cell? ⟨wr.heap.size, 2, none⟩ = some (.int .i64 q') := hk3.cell 2
      clear hb3 e0 e1 e2 e3
      go_wp2
      go_roundw
      case rel => exact ⟨j + 1, q', by omega, by go_num, rfl, HLN, hw3, hg3, ht3⟩
      case measure => simp [intOf]; omega
    · obtain rfl : j = ks.length := by omega
      clear HLj hgx htx
      go_wp2
      go_ret
      exact ⟨rfl, hwr⟩
end Go.Proofs.Ytkmcnekjimobhaa
