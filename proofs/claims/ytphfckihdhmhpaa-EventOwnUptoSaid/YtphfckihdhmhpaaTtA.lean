/- chaffref.TreeText: a tree as text. -/
import Derived.Test.YtphfckihdhmhpaaTr3
import Derived.Test.YtphfckihdhmhpaaDeA
import Derived.Test.YtphfckihdhmhpaaShJ
import Derived.Test.YtphfckihdhmhpaaGC
namespace Go.Proofs.Ytphfckihdhmhpaa
open Go.RowKit

theorem decD_len : ∀ (k m : Nat) (out : List UInt8), m < 2 ^ k → (decD m out).length ≤ k + out.length
  | 0, m, out, h => by
    have : m = 0 := by simpa using h
    subst this
    unfold decD
    simp
  | k + 1, m, out, h => by
    unfold decD
    split
    · omega
    · have := decD_len k (m / 10) (hexD (m % 10) :: out) (by rw [Nat.pow_succ] at h; omega)
      simp only [List.length_cons] at this
      omega
theorem decT_len {n : Int} (h : I64 n) : (decT n).length ≤ 65 := by
  unfold I64 at h
  have := decD_len 64 n.natAbs [] (by show n.natAbs < 18446744073709551616; omega)
  simp only [List.length_nil] at this
  unfold decT
  split
  · simp
  · split
    · simp only [List.length_cons]; omega
    · omega
def txHead (r f u : Int) : List UInt8 := decT r ++ [58] ++ decT f ++ [45] ++ decT u
mutual
def txT : Tr → List UInt8
  | .mk r f u ks => txHead r f u ++ (if ks.length = 0 then [] else [40] ++ Lib.join (txAll ks) [32] ++ [41])
def txAll : List Tr → List (List UInt8)
  | [] => []
  | t :: ts => txT t :: txAll ts
end
mutual
def tr64 : Tr → Prop
  | .mk r f u ks => I64 r ∧ I64 f ∧ I64 u ∧ tr64All ks
def tr64All : List Tr → Prop
  | [] => True
  | t :: ts => tr64 t ∧ tr64All ts
end
theorem tr64_mem : ∀ {ks : List Tr}, tr64All ks → ∀ t ∈ ks, tr64 t
  | _ :: _, h, t, ht => by
    rw [tr64All] at h
    rcases List.mem_cons.1 ht with rfl | ht
    · exact h.1
    · exact tr64_mem h.2 t ht
theorem txAll_len : ∀ ks : List Tr, (txAll ks).length = ks.length
  | [] => rfl
  | t :: ts => by rw [txAll, List.length_cons, List.length_cons, txAll_len ts]
theorem txAll_map : ∀ ks : List Tr, txAll ks = ks.map txT
  | [] => rfl
  | t :: ts => by rw [txAll, List.map_cons, txAll_map ts]
theorem lens_tx : ∀ (ks : List Tr), (∀ t ∈ ks, (txT t).length + 1 ≤ 201 * trNodes t) → Lib.lens (txAll ks) + ks.length ≤ 201 * trAll ks
  | [], _ => by simp [txAll, Lib.lens, trAll]
  | t :: ts, h => by
    have h1 := h t (by simp)
    have h2 := lens_tx ts fun x hx => h x (by simp [hx])
    rw [txAll, trAll]
    simp only [Lib.lens, List.map_cons, List.sum_cons, List.length_cons] at h2 ⊢
    omega
theorem join_tx (ks : List Tr) (h : ∀ t ∈ ks, (txT t).length + 1 ≤ 201 * trNodes t) : (Lib.join (txAll ks) [32]).length ≤ 201 * trAll ks := by
  cases ks with
  | nil => simp [txAll, Lib.join_nil]
  | cons t ts =>
    have h1 := lens_tx (t :: ts) h
    rw [txAll] at h1 ⊢
    rw [Lib.join_length]
    simp only [List.length_cons, List.length_nil, txAll_len] at h1 ⊢
    omega
theorem txT_len (t : Tr) : tr64 t → (txT t).length + 1 ≤ 201 * trNodes t := by
  refine Tr.ind (P := fun t => tr64 t → (txT t).length + 1 ≤ 201 * trNodes t) ?_ t
  intro r f u ks ih h
  rw [tr64] at h
  obtain ⟨h1, h2, h3, h4⟩ := h
  have hj := join_tx ks fun t ht => ih t ht (tr64_mem h4 t ht)
  have d1 := decT_len h1
  have d2 := decT_len h2
  have d3 := decT_len h3
  rw [txT, trNodes, List.length_append]
  unfold txHead
  split
  · simp only [List.length_append, List.length_cons, List.length_nil]
    omega
  · simp only [List.length_append, List.length_cons, List.length_nil]
    omega

theorem tts_info : (Try.prog.info? 9).map (fun i => (i.zero, i.size, i.bytes)) = some (some (.string ByteArray.empty), 1, 16) := by kernel_rfl
def strV (l : List (List UInt8)) : List Value := l.map fun x => .string ⟨x.toArray⟩
theorem cell_at0 {w : World} {g k : Nat} : w.cell? ((⟨g, 0, none⟩ : Addr).add k) = w.cell? ⟨g, 0 + k, none⟩ := by
  cases k with
  | zero => rfl
  | succ k => simp [Addr.add]
set_option maxHeartbeats 4000000 in
set_option maxRecDepth 100000 in
theorem treeText_any (t : Tr) : ∀ (cs : List Value) (w : World) (S : Nat → Prop), TrIs w S t cs → (∀ b, S b → b < w.heap.size) → trNodes t ≤ 1048576 → tr64 t →
    Calls Try.prog 41 #[.agg cs.toArray] w fun e w' => e = .returned (.string ⟨(txT t).toArray⟩) ∧ Below w.heap.size w w' := by
  refine Tr.ind (P := fun t => ∀ (cs : List Value) (w : World) (S : Nat → Prop), TrIs w S t cs → (∀ b, S b → b < w.heap.size) → trNodes t ≤ 1048576 → tr64 t →
    Calls Try.prog 41 #[.agg cs.toArray] w fun e w' => e = .returned (.string ⟨(txT t).toArray⟩) ∧ Below w.heap.size w w') ?_ t
  intro r f u ks ih cs w S ht hS hsz h64
  have hsz' := hsz
  rw [trNodes] at hsz'
  rw [tr64] at h64
  obtain ⟨r1, r2, r3, r4⟩ := h64
  have hlen := trAll_len ks
  have HJL := Lib.hid (join_tx ks fun t ht => txT_len t (tr64_mem r4 t ht))
  have HKL := Lib.hid (fun t (ht : t ∈ ks) => txT_len t (tr64_mem r4 t ht))
  have H64 := Lib.hid (tr64_mem r4)
  have HDA : Hid (∀ n W, n = r ∨ n = f ∨ n = u → Calls Try.prog 70 #[.int .i64 n] W fun e w' => e = .returned (.string ⟨(decT n).toArray⟩) ∧ W = w') := by
    rintro n W (h | h | h)
    · exact h ▸ dec_any r r1 W
    · exact h ▸ dec_any f r2 W
    · exact h ▸ dec_any u r3 W
  have d1 := decT_len r1
  have d2 := decT_len r2
  have d3 := decT_len r3
  obtain ⟨E, hE⟩ : ∃ E, E = txT (.mk r f u ks) := ⟨_, rfl⟩
  rw [← hE]
  rw [txT] at hE
  unfold txHead at hE
  have HE := Lib.hid hE
  clear r1 r2 r3 r4 hE
  have IH := Lib.hid ih
  cases ht with
  | mk _ _ _ _ A cp row hl hm hb hr hc =>
  have HRow := Lib.hid hr
  have HC := Lib.hid hc
  have HBk := Lib.hid hb
  have MEM := Lib.hid (trAll_mem ks)
  have hbx : Blk (w.alloc (.cells #[.int .i64 r, .int .i64 f, .int .i64 u, .slice A ks.length cp] 42)) w.heap.size 42 #[.int .i64 r, .int .i64 f, .int .i64 u, .slice A ks.length cp] := blk_at rfl
  have hbw : Below w.heap.size w (w.alloc (.cells #[.int .i64 r, .int .i64 f, .int .i64 u, .slice A ks.length cp] 42)) := (by repeat (first | exact Below.refl _ _ | assumption | refine Below.drew ?_ | refine below_drewN ?_ _ | refine Below.alloc ?_ (by first | omega | (simp; omega) | simp) _ | refine Below.setCell ?_ (by first | omega | (simp; omega) | simp) _))
  clear ih hr hc hb hsz
  go_enter Try.func41, Try.ntmps41
  have n1 : ¬ 9223372036854775807 < (decT r).length + 1 := by omega
  have n2 : ¬ 9223372036854775807 < (decT r).length + 1 + (decT f).length := by omega
  have n3 : ¬ 9223372036854775807 < (decT r).length + 1 + (decT f).length + 1 := by omega
  have n4 : ¬ 9223372036854775807 < (decT r).length + 1 + (decT f).length + 1 + (decT u).length := by omega
  go_wp2_with fail
  refine wp_region_q (fun W => Below w.heap.size w W ∧ Blk W w.heap.size 42 #[.int .i64 r, .int .i64 f, .int .i64 u, .slice A ks.length cp]) (by kernel_rfl) (by kernel_rfl) ⟨hbw.drew, hbx.drew⟩ ?_
  repeat
    (first | ((with_reducible apply QW.free rfl); · (intro W hW; obtain ⟨q1, q2⟩ := hW; have g0 := q2.cell 0; have g1 := q2.cell 1; have g2 := q2.cell 2; go_simp; first | (go_at_call 70; refine (HDA.out _ _ (by simp)).mono ?_; rintro e w' ⟨rfl, rfl⟩; exact ⟨rfl, q1, q2⟩) | rfl)) | ((with_reducible apply QW.skip rfl); · (first | exact ⟨_, _, rfl, rfl, .inl rfl⟩ | exact ⟨_, _, rfl, rfl, .inr rfl⟩)) | ((with_reducible apply QW.take rfl); (· exact ⟨_, rfl, rfl⟩); (· (intro W hW; obtain ⟨q1, q2⟩ := hW; have g0 := q2.cell 0; have g1 := q2.cell 1; have g2 := q2.cell 2; go_simp; first | (go_at_call 70; refine (HDA.out _ _ (by simp)).mono ?_; rintro e w' ⟨rfl, rfl⟩; exact ⟨rfl, q1, q2⟩) | rfl)))); (try simp only [Act.put, List.setIfInBounds_toArray, List.set_cons_zero, List.set_cons_succ])
  refine QW.nil ?_
  rintro w1 ⟨q1, q2⟩
  have hH : ((⟨(decT r).toArray⟩ : ByteArray) ++ ⟨#[58]⟩ ++ ⟨(decT f).toArray⟩ ++ ⟨#[45]⟩ ++ ⟨(decT u).toArray⟩) = ⟨(txHead r f u).toArray⟩ := by
    unfold txHead
    rw [← str_app, ← str_app, ← str_app, ← str_app]
  rw [hH]
  have hhl : (txHead r f u).length ≤ 197 := by
    unfold txHead
    simp only [List.length_append, List.length_cons, List.length_nil]
    omega
  replace HE : Hid (E = txHead r f u ++ (if ks.length = 0 then [] else [40] ++ Lib.join (txAll ks) [32] ++ [41])) := HE.out
  generalize txHead r f u = H at hhl HE
  clear hH d1 d2 d3 HDA n1 n2 n3 n4 hbx hbw
  have x3 : w1.cell? ⟨w.heap.size, 3, none⟩ = some (.slice A ks.length cp) := q2.cell 3
  by_cases hk0 : ks.length = 0
  · have hkz : ((ks.length : Int) == 0) = true := by rw [beq_iff_eq]; omega
    rw [if_pos hk0, List.append_nil] at HE
    go_wp2
    go_ret
    exact ⟨by rw [HE.out]; rfl, q1⟩
  · have hkz : ((ks.length : Int) == 0) = false := by rw [beq_eq_false_iff_ne]; omega
    rw [if_neg hk0] at HE
    obtain ⟨i0, hi0, hz0, hz1, hz2⟩ := info_parts tts_info
    have HSH := Lib.hid hhl
    go_wp2
    rename World => wq
    go_loopw [4, 6, 28] (fun v _ i wr => ∃ j : Nat, j ≤ ks.length ∧ i = .int .i64 j ∧ (∃ V cp, v = .slice V j cp ∧ Hid (wr.ownsRow (w.heap.size + 1) 9 1 (.slice V j cp) j (strV (txAll (ks.take j))))) ∧ Below w.heap.size w wr ∧ Blk wr w.heap.size 42 #[.int .i64 r, .int .i64 f, .int .i64 u, .slice A ks.length cp]) (fun _ _ i _ => ks.length - (intOf i).toNat)
    case atStart => exact ⟨0, by omega, rfl, ⟨none, 0, rfl, ⟨rfl, .inl ⟨rfl, rfl⟩⟩⟩, q1, q2⟩
    case round =>
      obtain ⟨j, hj, rfl, ⟨V, vp, rfl, HOWN⟩, hwr, hbx⟩ := hrel
      by_cases hjk : j < ks.length
      · have HD : Hid (ks.take (j + 1) = ks.take j ++ [ks[j]]) := by
          show _ = _
          exact take_succ_of (List.getElem?_eq_getElem hjk)
        have hej : ks[j]? = some ks[j] := List.getElem?_eq_getElem hjk
        generalize ks[j] = ej at hej HD
        obtain ⟨ad, rfl, hab⟩ := HBk.out (by omega)
        have hT := (HRow.out j ej hej).keep (fun _ h => h) (fun p hp => hwr.cell (hS _ hp))
        have hcj := HC.out j ej ad hej rfl
        have hmem := List.mem_of_getElem? hej
        generalize row j = rj at hT hcj
        cases ej with
        | mk r' f' u' ks' =>
        have hT2 := hT
        cases hT with
        | mk _ _ _ _ A' cp' row' hl' hm' hb' hr' hc' =>
        have hcc : ∀ i v, [Value.int .i64 r', .int .i64 f', .int .i64 u', .slice A' ks'.length cp'][i]? = some v → wr.cell? ((ad.add (j * 4)).add i) = some v := by
          intro i v hv
          rw [hwr.cell (by rw [add_block, add_block]; exact hS _ hab)]
          exact hcj i v hv
        have e0 : wr.cell? (ad.add (j * 4)) = some (.int .i64 r') := hcc 0 _ rfl
        have e1 : wr.cell? ⟨(ad.add (j * 4)).block, (ad.add (j * 4)).off + 1, none⟩ = some (.int .i64 f') := hcc 1 _ rfl
        have e2 : wr.cell? ⟨(ad.add (j * 4)).block, (ad.add (j * 4)).off + 2, none⟩ = some (.int .i64 u') := hcc 2 _ rfl
        have e3 : wr.cell? ⟨(ad.add (j * 4)).block, (ad.add (j * 4)).off + 3, none⟩ = some (.slice A' ks'.length cp') := hcc 3 _ rfl
        clear hcc hcj hej hr' hc' hb'
        have hwz := hwr.size
        have hk1 := MEM.out _ hmem
        have HCall := Lib.hid (fun o => IH.out _ hmem _ (wr.alloc o) S (hT2.keep (fun _ h => h) (fun p hp => World.cell?_alloc_lt _ _ _ (by have := hS _ hp; omega))) (fun b h => by have := hS _ h; simp; omega) (by omega) (H64.out _ hmem))
        have HSN : Hid (strV (txAll (ks.take (j + 1))) = strV (txAll (ks.take j)) ++ [.string ⟨(txT (.mk r' f' u' ks')).toArray⟩]) := by
          show _ = _
          rw [HD.out, txAll_map, txAll_map]
          unfold strV
          simp
        generalize txT (.mk r' f' u' ks') = F at HCall HSN
        clear hT2 HD hk1
        go_wp2_with fail
        refine (HCall.out _).mono ?_
        rintro e w2 ⟨rfl, hb2⟩
        have hw2 : Below w.heap.size w w2 := Below.trans (by repeat (first | exact Below.refl _ _ | assumption | refine Below.drew ?_ | refine below_drewN ?_ _ | refine Below.alloc ?_ (by first | omega | (simp; omega) | simp) _ | refine Below.setCell ?_ (by first | omega | (simp; omega) | simp) _)) (hb2.mono (by first | omega | (simp; omega) | simp))
        have hbx2 := (hbx.alloc (.cells #[.int .i64 r', .int .i64 f', .int .i64 u', .slice A' ks'.length cp'] 42)).below hb2 (by have := hbx.lt; simp; omega)
        have hown3 := own_below (HOWN.out.alloc _) hb2
        have hsw := hw2.size
        clear hb2 hbx HOWN
        go_wp2_with (at_builtin; refine wpList_append_lies _ rfl _ _ _ rfl (w.heap.size + 1) 9 i0 _ 1 16 Try.underlying71 hi0 hz0 hz1 hz2 rfl (by omega) (.slice V j vp) j _ rfl (hown3.alloc _) ⟨w2.heap.size, 0, none⟩ 1 1 [.string ⟨F.toArray⟩] rfl rfl (World.news_of_block (cs := #[.string ⟨F.toArray⟩]) (t := 9) (fr := (0, 0)) (heap_alloc_new w2 _)) (by intro u hu; simp at hu; subst hu; rfl) (by omega) (by unfold maxLen; omega) (by omega) (by have := hbx2.lt; simp; omega) _ rfl ?_; intro g3 cap w3 hown4 hgrow hat hlt)
        go_roundw
        case rel =>
          refine ⟨j + 1, by omega, by go_num, ⟨_, cap, rfl, ?_⟩, below_app (hw2.alloc hsw _) (hown3.alloc _) hgrow (by simp; omega) (by omega), (hbx2.alloc _).grown hgrow (own_ne (hown3.alloc (.cells #[.string ⟨F.toArray⟩] 9)) (by omega))⟩
          show World.ownsRow _ _ _ _ _ _ _
          rw [HSN.out]
          exact hown4
        case measure => simp [intOf]; omega
      · obtain rfl : j = ks.length := by omega
        have hta : ks.take ks.length = ks := List.take_length
        rw [hta] at HOWN
        obtain ⟨g, cq, hv, hgb, hgl⟩ := HOWN.out.form (by omega)
        simp only [Value.slice.injEq, true_and] at hv
        obtain ⟨rfl, rfl⟩ := hv
        have hcap : ks.length ≤ vp := by
          rcases HOWN.out.2 with ⟨e, e2⟩ | ⟨g', c', cur, e, _, _, e1, e2, _⟩
          · cases e
          · simp only [Value.slice.injEq] at e
            rw [e.2.2]
            exact e1
        have hxl : ((txAll ks).map fun x => (⟨x.toArray⟩ : ByteArray)).length = ks.length := by rw [List.length_map, txAll_len]
        have hmm : (((txAll ks).map fun x => (⟨x.toArray⟩ : ByteArray)).map (·.data.toList)) = txAll ks := by simp [List.map_map, Function.comp_def]
        have hjl := HJL.out
        have HJ := sh_strings_Join g 0 vp ((txAll ks).map fun x => (⟨x.toArray⟩ : ByteArray)) ⟨#[32]⟩ wr (fun k x hx => by
          have := HOWN.out.cells (g := g) rfl k (.string x) (by unfold strV; rw [List.getElem?_map] at hx ⊢; rw [Option.map_eq_some_iff] at hx ⊢; obtain ⟨y, h1, rfl⟩ := hx; exact ⟨y, h1, rfl⟩)
          rwa [cell_at0] at this) hgl (by omega) (by omega) (by rw [hmm]; show (Lib.join (txAll ks) [32]).length ≤ _; omega)
        rw [hxl, hmm] at HJ
        have hsp : (ByteArray.mk #[32]).data.toList = [32] := rfl
        rw [hsp] at HJ
        generalize Lib.join (txAll ks) [32] = JJ at HJ HE hjl
        replace HJ := Lib.hid HJ
        have n1 : ¬ 9223372036854775807 < H.length + 1 := by omega
        have n2 : ¬ 9223372036854775807 < H.length + 1 + JJ.length := by omega
        have n3 : ¬ 9223372036854775807 < H.length + 1 + JJ.length + 1 := by omega
        clear hxl hmm hjl hsp
        go_wp2_with fail
        refine (HJ.out).mono ?_
        rintro e w2 ⟨rfl, hb2⟩
        go_wp2
        go_ret
        exact ⟨by rw [HE.out, ← str_app, ← str_app, ← str_app]; first | rfl | simp [ByteArray.append_assoc], hwr.trans (hb2.mono hwr.size)⟩
end Go.Proofs.Ytphfckihdhmhpaa
