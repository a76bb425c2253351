/- The law ExprParts: the nodes of a right expression are itself and those of its kids. -/
import Derived.Test.YtkoenjnjkapfmaaEx5
import Derived.Test.YtkoenjnjkapfmaaQuiet
namespace Go.Proofs.Ytkoenjnjkapfmaa
open Go.RowKit

mutual
def nodes : Ex → Nat
  | .mk _ _ _ _ _ _ ks => 1 + nodesAll ks
def nodesAll : List Ex → Nat
  | [] => 0
  | e :: es => nodes e + nodesAll es
end

theorem looks_ok : ∀ (ks : List Ex) (n deep : Nat), (∀ e ∈ ks, ∀ n deep, (lookN e n deep).1 = 0 → ∀ n' deep', n' ≤ n → deep' ≤ deep → lookN e n' deep' = (0, n' + nodes e)) → (looks ks n deep).1 = 0 →
    ∀ n' deep', n' ≤ n → deep' ≤ deep → looks ks n' deep' = (0, n' + nodesAll ks) ∧ ∀ e ∈ ks, ∀ d, d ≤ deep → lookN e 0 d = (0, nodes e)
  | [], n, deep, _, _ => fun n' deep' _ _ => ⟨by simp [looks, nodesAll], fun e he => by cases he⟩
  | e :: es, n, deep, h, h0 => fun n' deep' hn hd => by
    have he := h e (by simp) n deep
    unfold looks at h0
    split at h0
    · rename_i hz
      have h1 := he hz n' deep' hn hd
      have h2 := he hz n deep (Nat.le_refl _) (Nat.le_refl _)
      rw [h2] at h0
      have h3 := looks_ok es (n + nodes e) deep (fun e' he' => h e' (by simp [he'])) h0 (n' + nodes e) deep' (by omega) hd
      refine ⟨?_, ?_⟩
      · unfold looks
        rw [h1, if_pos rfl, h3.1, nodesAll, Nat.add_assoc]
      · intro e' he' d hd'
        rcases List.mem_cons.1 he' with rfl | he'
        · have := he hz 0 d (Nat.zero_le _) hd'
          rw [this, Nat.zero_add]
        · exact h3.2 e' he' d hd'
    · rename_i hz
      exact absurd h0 hz
theorem look_ok (e : Ex) : ∀ n deep, (lookN e n deep).1 = 0 → ∀ n' deep', n' ≤ n → deep' ≤ deep → lookN e n' deep' = (0, n' + nodes e) := by
  refine Ex.ind (P := fun e => ∀ n deep, (lookN e n deep).1 = 0 → ∀ n' deep', n' ≤ n → deep' ≤ deep → lookN e n' deep' = (0, n' + nodes e)) ?_ e
  intro k a b c d t ks ih n deep h0 n' deep' hn hd
  unfold lookN at h0
  split at h0
  · simp at h0
  · split at h0
    · simp at h0
    · split at h0
      · simp at h0
      · rename_i g1 g2 g3
        have h3 := (looks_ok ks (n + 1) (deep + 1) ih h0 (n' + 1) (deep' + 1) (by omega) (by omega)).1
        unfold lookN
        rw [if_neg (by omega), if_neg (by omega), if_neg g3, h3, nodes, Nat.add_assoc]
/-- of a right expression -/
theorem parts_ok {k a b c d : Int} {t : ByteArray} {ks : List Ex} (h : checkE (.mk k a b c d t ks) = 0) : sizeE (.mk k a b c d t ks) = (1 + nodesAll ks, 0) ∧ (∀ e ∈ ks, sizeE e = (nodes e, 0)) ∧ nodesAll ks ≤ 60 := by
  have h1 := look_ok _ 0 1 h 0 1 (Nat.le_refl _) (Nat.le_refl _)
  refine ⟨?_, ?_, ?_⟩
  · unfold sizeE
    rw [h1, if_pos rfl, Nat.zero_add, nodes]
  · intro e he
    unfold checkE at h
    unfold lookN at h
    split at h
    · simp at h
    · split at h
      · simp at h
      · split at h
        · simp at h
        · have := (looks_ok ks (0 + 1) (1 + 1) (fun e _ => look_ok e) h (0 + 1) (1 + 1) (Nat.le_refl _) (Nat.le_refl _)).2 e he 1 (by omega)
          unfold sizeE
          rw [this, if_pos rfl]
  · have h2 := (lookN_le (.mk k a b c d t ks) 0 1 (by omega)).2 h
    rw [h1, nodes] at h2
    simp at h2
    omega
theorem size_bad {e : Ex} (h : checkE e ≠ 0) : sizeE e = (0, checkE e) := by
  unfold sizeE checkE at *
  rw [if_neg h]

def twoE : Ex := .mk 11 0 0 0 0 ⟨#[]⟩ [.mk 1 0 0 0 0 ⟨#[]⟩ []]
theorem size_two : sizeE twoE = (2, 0) := by decide +kernel

theorem two_is {w : World} {g B : Nat} (hb : Blk w g 60 #[.int .i64 1, .int .u64 0, .int .u64 0, .int .u64 0, .int .u64 0, .string ⟨#[]⟩, .slice none 0 0]) (hg : g < B) :
    ExIs w B twoE [.int .i64 11, .int .u64 0, .int .u64 0, .int .u64 0, .int .u64 0, .string ⟨#[]⟩, .slice (some ⟨g, 0, none⟩) 1 1] := by
  refine .mk 11 0 0 0 0 ⟨#[]⟩ [.mk 1 0 0 0 0 ⟨#[]⟩ []] (some ⟨g, 0, none⟩) 1 (fun _ => [.int .i64 1, .int .u64 0, .int .u64 0, .int .u64 0, .int .u64 0, .string ⟨#[]⟩, .slice none 0 0]) (by simp [ByteArray.size]) (by simp) (by unfold maxLen; omega) (fun h => by cases h) (fun _ => ⟨_, rfl, hg⟩) ?_ ?_
  · intro i e he
    match i, he with
    | 0, he =>
      simp at he
      subst he
      exact .mk 1 0 0 0 0 ⟨#[]⟩ [] none 0 (fun _ => []) (by simp [ByteArray.size]) (by simp) (by unfold maxLen; omega) (fun _ => rfl) (fun h => by simp at h) (fun i e h => by simp at h) (fun i e ad h => by simp at h)
  · intro i e ad he hA j u hu
    match i, he with
    | 0, he =>
      injection hA with hA
      subst hA
      have := hb.cell j
      have e1 : (({ block := g, off := 0 } : Addr).add (0 * 7)).add j = ⟨g, j, none⟩ := by
        show (({ block := g, off := 0 } : Addr).add j) = _
        cases j with
        | zero => rfl
        | succ j => simp [Addr.add]
      rw [e1, this]
      simpa using hu

set_option maxRecDepth 100000 in
theorem walk_ExprParts (e : Ex) (cs : List Value) (w : World) (h : ExIs w w.heap.size e cs) :
    Calls Try.prog 10 #[.agg cs.toArray] w fun e w' => e = .returned (.bool true) ∧ Below w.heap.size w w' := by
  have hsz := fun (W : World) (hW : Below w.heap.size w W) => size_expr e cs W (h.keep hW.size (fun p hp => hW.cell hp))
  have hck := fun (W : World) (hW : Below w.heap.size w W) => check_expr e cs W (h.keep hW.size (fun p hp => hW.cell hp))
  have htwo := fun (W : World) (g : Nat) (hb : Blk W g 60 #[.int .i64 1, .int .u64 0, .int .u64 0, .int .u64 0, .int .u64 0, .string ⟨#[]⟩, .slice none 0 0]) => size_expr twoE _ W (two_is hb hb.lt)
  rw [size_two] at htwo
  have HSZ := Lib.hid hsz
  have HCK := Lib.hid hck
  have HTW := Lib.hid htwo
  clear hsz hck htwo
  cases h with
  | mk k a b c d t ks A cp row ht hl hm hnone hb hr hc =>
  have HRow := Lib.hid hr
  have HC := Lib.hid hc
  have HBk := Lib.hid hb
  clear hr hc hb hnone
  go_enter Try.func10, Try.ntmps10
  go_wp2_with fail
  refine (HTW.out _ (w.heap.size + 1) (blk_at (by simp))).mono ?_
  rintro e w1 ⟨rfl, hb1⟩
  have hbx : Blk w1 w.heap.size 60 #[.int .i64 k, .int .u64 a, .int .u64 b, .int .u64 c, .int .u64 d, .string t, .slice A ks.length cp] := ((blk_at rfl).alloc _).below hb1 (by simp; omega)
  have hw1 : Below w.heap.size w w1 := Below.trans (by repeat (first | exact Below.refl _ _ | assumption | refine Below.drew ?_ | refine below_drewN ?_ _ | refine Below.alloc ?_ (by first | omega | (simp; omega) | simp) _ | refine Below.setCell ?_ (by first | omega | (simp; omega) | simp) _)) (hb1.mono (by first | omega | (simp; omega) | simp)); have hzw1 := hw1.size; clear hb1
  have x0 : w1.cell? ⟨w.heap.size, 0, none⟩ = some (.int .i64 k) := hbx.cell 0
  have x1 : w1.cell? ⟨w.heap.size, 1, none⟩ = some (.int .u64 a) := hbx.cell 1
  have x2 : w1.cell? ⟨w.heap.size, 2, none⟩ = some (.int .u64 b) := hbx.cell 2
  have x3 : w1.cell? ⟨w.heap.size, 3, none⟩ = some (.int .u64 c) := hbx.cell 3
  have x4 : w1.cell? ⟨w.heap.size, 4, none⟩ = some (.int .u64 d) := hbx.cell 4
  have x5 : w1.cell? ⟨w.heap.size, 5, none⟩ = some (.string t) := hbx.cell 5
  have x6 : w1.cell? ⟨w.heap.size, 6, none⟩ = some (.slice A ks.length cp) := hbx.cell 6
  go_wp2_with fail
  refine (HSZ.out _ hw1).mono ?_
  rintro e w2 ⟨rfl, hb2⟩
  have hbx2 : Blk w2 w.heap.size 60 #[.int .i64 k, .int .u64 a, .int .u64 b, .int .u64 c, .int .u64 d, .string t, .slice A ks.length cp] := hbx.below hb2 hbx.lt
  have hw2 : Below w.heap.size w w2 := Below.trans (by repeat (first | exact Below.refl _ _ | assumption | refine Below.drew ?_ | refine below_drewN ?_ _ | refine Below.alloc ?_ (by first | omega | (simp; omega) | simp) _ | refine Below.setCell ?_ (by first | omega | (simp; omega) | simp) _)) (hb2.mono (by first | omega | (simp; omega) | simp)); have hzw2 := hw2.size; clear hb2
  clear x0 x1 x2 x3 x4 x5 x6 hbx
  have y0 : w2.cell? ⟨w.heap.size, 0, none⟩ = some (.int .i64 k) := hbx2.cell 0
  have y1 : w2.cell? ⟨w.heap.size, 1, none⟩ = some (.int .u64 a) := hbx2.cell 1
  have y2 : w2.cell? ⟨w.heap.size, 2, none⟩ = some (.int .u64 b) := hbx2.cell 2
  have y3 : w2.cell? ⟨w.heap.size, 3, none⟩ = some (.int .u64 c) := hbx2.cell 3
  have y4 : w2.cell? ⟨w.heap.size, 4, none⟩ = some (.int .u64 d) := hbx2.cell 4
  have y5 : w2.cell? ⟨w.heap.size, 5, none⟩ = some (.string t) := hbx2.cell 5
  have y6 : w2.cell? ⟨w.heap.size, 6, none⟩ = some (.slice A ks.length cp) := hbx2.cell 6
  by_cases h0 : checkE (.mk k a b c d t ks) = 0
  · obtain ⟨p1, p2, p3⟩ := parts_ok h0
    rw [p1]
    have P2 := Lib.hid p2
    clear p1 p2 h0
    have hn0 : ((1 + nodesAll ks : Nat) : Int) - 1 = (nodesAll ks : Int) := by omega
    have hm2 : ks.length ≤ 9223372036854775807 := by unfold maxLen at hm; omega
    clear y0 y1 y2 y3 y4 y5 hbx2
    go_wp2
    go_loopw [5, 8, 9, 10, 44] (fun n5 _ _ _ i wr => ∃ j : Nat, j ≤ ks.length ∧ i = .int .i64 j ∧ n5 = .int .i64 (nodesAll (ks.drop j)) ∧ nodesAll (ks.drop j) ≤ 60 ∧ Below w.heap.size w wr) (fun _ _ _ _ i _ => ks.length - (intOf i).toNat)
    case atStart => exact ⟨0, by omega, rfl, by rw [List.drop_zero]; congr 1, p3, hw2⟩
    case round =>
      obtain ⟨j, hj, rfl, rfl, h60, hwr⟩ := hrel
      by_cases hjk : j < ks.length
      · have hej : ks[j]? = some ks[j] := List.getElem?_eq_getElem hjk
        have HD : Hid (nodesAll (ks.drop j) = nodes ks[j] + nodesAll (ks.drop (j + 1))) := by
          show _ = _
          rw [List.drop_eq_getElem_cons hjk, nodesAll]
        generalize ks[j] = ej at hej HD
        obtain ⟨ad, rfl, hab⟩ := HBk.out (by omega)
        have hej2 := (HRow.out j ej hej).keep (Nat.le_refl _) (fun p hp => hwr.cell hp)
        have hcj := HC.out j ej ad hej rfl
        have hsj := P2.out ej (List.mem_of_getElem? hej)
        generalize row j = rj at hej2 hcj
        have hsz := fun (W : World) (hW : Below w.heap.size wr W) => size_expr ej rj W (hej2.keep (Nat.le_trans hwr.size hW.size) (fun p hp => hW.cell hp))
        rw [hsj] at hsz
        have HSJ := Lib.hid hsz
        clear hsz hsj
        cases ej with
        | mk k' a' b' c' d' t' ks' =>
        cases hej2 with
        | mk _ _ _ _ _ _ _ A' cp' row' ht' hl' hm' hnone' hb' hr' hc' =>
        have e0 : wr.cell? (ad.add (j * 7)) = some (.int .i64 k') := by
          rw [hwr.cell (by rw [add_block]; exact hab)]
          exact hcj 0 _ rfl
        have hcc : ∀ i u, [Value.int .i64 k', .int .u64 a', .int .u64 b', .int .u64 c', .int .u64 d', .string t', .slice A' ks'.length cp'][i]? = some u → wr.cell? ((ad.add (j * 7)).add i) = some u := by
          intro i u hu
          rw [hwr.cell (by rw [add_block, add_block]; exact hab)]
          exact hcj i u hu
        have e1 : wr.cell? ⟨(ad.add (j * 7)).block, (ad.add (j * 7)).off + 1, none⟩ = some (.int .u64 a') := hcc 1 _ rfl
        have e2 : wr.cell? ⟨(ad.add (j * 7)).block, (ad.add (j * 7)).off + 2, none⟩ = some (.int .u64 b') := hcc 2 _ rfl
        have e3 : wr.cell? ⟨(ad.add (j * 7)).block, (ad.add (j * 7)).off + 3, none⟩ = some (.int .u64 c') := hcc 3 _ rfl
        have e4 : wr.cell? ⟨(ad.add (j * 7)).block, (ad.add (j * 7)).off + 4, none⟩ = some (.int .u64 d') := hcc 4 _ rfl
        have e5 : wr.cell? ⟨(ad.add (j * 7)).block, (ad.add (j * 7)).off + 5, none⟩ = some (.string t') := hcc 5 _ rfl
        have e6 : wr.cell? ⟨(ad.add (j * 7)).block, (ad.add (j * 7)).off + 6, none⟩ = some (.slice A' ks'.length cp') := hcc 6 _ rfl
        clear hcc hcj hej hr' hc' hb' hnone'
        have hwz := hwr.size
        have hd := HD.out
        generalize nodesAll (ks.drop j) = N at hd h60
        generalize nodes (.mk k' a' b' c' d' t' ks') = M at hd HSJ
        generalize hN2 : nodesAll (ks.drop (j + 1)) = N2 at hd
        have HN2 := Lib.hid hN2
        have hsub : ((N : Nat) : Int) - (M : Int) = (N2 : Int) := by omega
        clear hd hN2 HD
        go_wp2_with fail
        refine (HSJ.out _ (by repeat (first | exact Below.refl _ _ | assumption | refine Below.drew ?_ | refine below_drewN ?_ _ | refine Below.alloc ?_ (by first | omega | (simp; omega) | simp) _ | refine Below.setCell ?_ (by first | omega | (simp; omega) | simp) _))).mono ?_
        rintro e w3 ⟨rfl, hb3⟩
        have hw3 : Below w.heap.size w w3 := Below.trans (by repeat (first | exact Below.refl _ _ | assumption | refine Below.drew ?_ | refine below_drewN ?_ _ | refine Below.alloc ?_ (by first | omega | (simp; omega) | simp) _ | refine Below.setCell ?_ (by first | omega | (simp; omega) | simp) _)) (hb3.mono (by first | omega | (simp; omega) | simp))
        clear hb3
        go_wp2
        go_roundw
        case rel => exact ⟨j + 1, by omega, by go_num, by rw [HN2.out], by rw [HN2.out]; omega, hw3⟩
        case measure => simp [intOf]; omega
      · obtain rfl : j = ks.length := by omega
        have hz : nodesAll (ks.drop ks.length) = 0 := by rw [List.drop_length, nodesAll]
        rw [hz]
        go_wp2
        go_ret
        exact ⟨rfl, hwr⟩
  · rw [size_bad h0]
    have hxb : (checkE (.mk k a b c d t ks) != 0) = true := by rw [bne_iff_ne]; exact h0
    generalize checkE (.mk k a b c d t ks) = x at hxb HCK
    go_wp2_with fail
    refine (HCK.out _ hw2).mono ?_
    rintro e w3 ⟨rfl, hb3⟩
    have hw3 : Below w.heap.size w w3 := Below.trans (by repeat (first | exact Below.refl _ _ | assumption | refine Below.drew ?_ | refine below_drewN ?_ _ | refine Below.alloc ?_ (by first | omega | (simp; omega) | simp) _ | refine Below.setCell ?_ (by first | omega | (simp; omega) | simp) _)) (hb3.mono (by first | omega | (simp; omega) | simp)); have hzw3 := hw3.size; clear hb3
    go_wp2
    go_ret
    exact ⟨rfl, hw3⟩
end Go.Proofs.Ytkoenjnjkapfmaa
