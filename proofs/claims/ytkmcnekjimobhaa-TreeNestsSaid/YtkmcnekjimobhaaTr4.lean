/- What chaffref.SameTree answers. -/
import Derived.Test.YtkmcnekjimobhaaTr2
namespace Go.Proofs.Ytkmcnekjimobhaa
open Go.RowKit

mutual
def sameT : Tr → Tr → Bool
  | .mk r f u ks, .mk r' f' u' ks' => r == r' && (f == f' && (u == u' && sameAll ks ks'))
def sameAll : List Tr → List Tr → Bool
  | [], [] => true
  | t :: ts, t' :: ts' => sameT t t' && sameAll ts ts'
  | [], _ :: _ => false
  | _ :: _, [] => false
end
theorem sameAll_len : ∀ (a b : List Tr), a.length ≠ b.length → sameAll a b = false
  | [], [], h => by simp at h
  | [], _ :: _, _ => by rw [sameAll]
  | _ :: _, [], _ => by rw [sameAll]
  | x :: a, y :: b, h => by
    rw [sameAll, sameAll_len a b (by simpa using h), Bool.and_false]
theorem sameAll_eq : ∀ (a : List Tr), (∀ t ∈ a, ∀ t', sameT t t' = true ↔ t = t') → ∀ b, sameAll a b = true ↔ a = b
  | [], _, [] => by simp [sameAll]
  | [], _, _ :: _ => by simp [sameAll]
  | _ :: _, _, [] => by simp [sameAll]
  | x :: a, h, y :: b => by
    rw [sameAll, Bool.and_eq_true, h x (by simp) y, sameAll_eq a (fun t ht => h t (by simp [ht])) b, List.cons.injEq]
theorem sameT_eq (t : Tr) : ∀ t', sameT t t' = true ↔ t = t' := by
  refine Tr.ind (P := fun t => ∀ t', sameT t t' = true ↔ t = t') ?_ t
  intro r f u ks ih t'
  cases t' with
  | mk r' f' u' ks' =>
    rw [sameT]
    simp only [Bool.and_eq_true, beq_iff_eq, sameAll_eq ks ih ks', Tr.mk.injEq]
    

/-- a slice of trees that can be read in blocks of S -/
def Kids (w : World) (S : Nat → Prop) (ks : List Tr) (A : Option Addr) (n cp : Nat) : Prop :=
  n = ks.length ∧ n ≤ cp ∧ cp ≤ maxLen ∧ (0 < n → ∃ ad : Addr, A = some ad ∧ S ad.block) ∧
  ∃ row : Nat → List Value, (∀ i t, ks[i]? = some t → TrIs w S t (row i)) ∧ (∀ i t ad, ks[i]? = some t → A = some ad → ∀ j u, (row i)[j]? = some u → w.cell? ((ad.add (i * 4)).add j) = some u)

theorem Kids.keep {w w' : World} {S S' : Nat → Prop} {ks : List Tr} {A : Option Addr} {n cp : Nat} (h : Kids w S ks A n cp) (hS : ∀ b, S b → S' b) (hk : ∀ p : Addr, S p.block → w'.cell? p = w.cell? p) : Kids w' S' ks A n cp := by
  obtain ⟨h1, h2, h3, h4, row, h5, h6⟩ := h
  refine ⟨h1, h2, h3, fun h0 => ?_, row, fun i t ht => (h5 i t ht).keep hS hk, fun i t ad ht hA j v hv => ?_⟩
  · obtain ⟨ad, e, hs⟩ := h4 h0
    exact ⟨ad, e, hS _ hs⟩
  · obtain ⟨ad', e', hs⟩ := h4 (by have := getElem?_lt ht; omega)
    rw [hA] at e'
    injection e' with e'
    subst e'
    rw [hk _ (by rw [add_block, add_block]; exact hs)]
    exact h6 i t ad ht hA j v hv
/-- the kid at place j, and its cells -/
theorem Kids.at_ {w : World} {S : Nat → Prop} {ks : List Tr} {A : Option Addr} {n cp j : Nat} (h : Kids w S ks A n cp) (hj : j < n) :
    ∃ ad r f u ks' A' cp', A = some ad ∧ S ad.block ∧ ks[j]? = some (.mk r f u ks') ∧ TrIs w S (.mk r f u ks') [.int .i64 r, .int .i64 f, .int .i64 u, .slice A' ks'.length cp'] ∧
      w.cell? (ad.add (j * 4)) = some (.int .i64 r) ∧ w.cell? ⟨(ad.add (j * 4)).block, (ad.add (j * 4)).off + 1, none⟩ = some (.int .i64 f) ∧
      w.cell? ⟨(ad.add (j * 4)).block, (ad.add (j * 4)).off + 2, none⟩ = some (.int .i64 u) ∧ w.cell? ⟨(ad.add (j * 4)).block, (ad.add (j * 4)).off + 3, none⟩ = some (.slice A' ks'.length cp') := by
  obtain ⟨h1, h2, h3, h4, row, h5, h6⟩ := h
  obtain ⟨ad, rfl, hs⟩ := h4 (by omega)
  have hej : ks[j]? = some (ks[j]'(by omega)) := List.getElem?_eq_getElem (by omega)
  generalize ks[j]'(by omega) = ej at hej
  have hT := h5 j ej hej
  have hcj := h6 j ej ad hej rfl
  generalize row j = rj at hT hcj
  cases ej with
  | mk r f u ks' =>
    have hT2 := hT
    cases hT with
    | mk _ _ _ _ A' cp' row' hl' hm' hb' hr' hc' =>
      exact ⟨ad, r, f, u, ks', A', cp', rfl, hs, hej, hT2, hcj 0 _ rfl, hcj 1 _ rfl, hcj 2 _ rfl, hcj 3 _ rfl⟩
theorem TrIs.kids {w : World} {S : Nat → Prop} {r f u : Int} {ks : List Tr} {cs : List Value} (h : TrIs w S (.mk r f u ks) cs) : ∃ A cp, cs = [.int .i64 r, .int .i64 f, .int .i64 u, .slice A ks.length cp] ∧ Kids w S ks A ks.length cp := by
  cases h with
  | mk _ _ _ _ A cp row hl hm hb hr hc => exact ⟨A, cp, rfl, rfl, hl, hm, hb, row, hr, hc⟩

/-- SameTree at two trees -/
def SameAt (t : Tr) : Prop := ∀ (t' : Tr) (cs cs' : List Value) (w : World) (S : Nat → Prop), TrIs w S t cs → TrIs w S t' cs' → (∀ b, S b → b < w.heap.size) →
  Calls Try.prog 14 #[.agg cs.toArray, .agg cs'.toArray] w fun e w' => e = .returned (.bool (sameT t t')) ∧ Below w.heap.size w w'

set_option maxRecDepth 100000 in
theorem equalF_any (ks ks' : List Tr) (ih : ∀ t ∈ ks, SameAt t) (A A' : Option Addr) (n n' cp cp' : Nat) (w : World) (S : Nat → Prop) (h : Kids w S ks A n cp) (h' : Kids w S ks' A' n' cp') (hS : ∀ b, S b → b < w.heap.size) :
    Calls Try.prog 47 #[.slice A n cp, .slice A' n' cp', .func (.func 14) #[] #[]] w fun e w' => e = .returned (.bool (sameAll ks ks')) ∧ Below w.heap.size w w' := by
  have HN := Lib.hid h.1
  have HN' := Lib.hid h'.1
  have hmx := h.2.2.1
  have hmn := h.2.1
  unfold maxLen at hmx
  have IH := Lib.hid ih
  clear ih
  by_cases hnn : n = n'
  · subst hnn
    go_enter Try.func47, Try.ntmps47
    go_wp2
    go_loopw [7, 8, 9, 17] (fun _ _ _ i wr => ∃ j : Nat, j ≤ n ∧ i = .int .i64 j ∧ Hid (sameAll ks ks' = sameAll (ks.drop j) (ks'.drop j)) ∧ Below w.heap.size w wr) (fun _ _ _ i _ => n - (intOf i).toNat)
    case atStart => exact ⟨0, by omega, rfl, rfl, Below.refl _ _⟩
    case round =>
      obtain ⟨j, hj, rfl, HR, hwr⟩ := hrel
      have hwz := hwr.size
      by_cases hjn : j < n
      · obtain ⟨ad, r, f, u, k1, B, c1, rfl, hab, hg, hT, e0, e1, e2, e3⟩ := (h.keep (fun _ h => h) (fun p hp => hwr.cell (hS _ hp)) : Kids wr S ks A n cp).at_ hjn
        obtain ⟨ad', r', f', u', k1', B', c1', rfl, hab', hg', hT', e0', e1', e2', e3'⟩ := (h'.keep (fun _ h => h) (fun p hp => hwr.cell (hS _ hp)) : Kids wr S ks' A' n cp').at_ hjn
        have hmem := List.mem_of_getElem? hg
        have HD : Hid (sameAll (ks.drop j) (ks'.drop j) = (sameT (.mk r f u k1) (.mk r' f' u' k1') && sameAll (ks.drop (j + 1)) (ks'.drop (j + 1)))) := by
          show _ = _
          have l1 := getElem?_lt hg
          have l2 := getElem?_lt hg'
          rw [List.getElem?_eq_getElem l1] at hg
          rw [List.getElem?_eq_getElem l2] at hg'
          injection hg with hg
          injection hg' with hg'
          rw [List.drop_eq_getElem_cons l1, List.drop_eq_getElem_cons l2, hg, hg', sameAll]
        have hcall : ∀ W : World, Below w.heap.size wr W → Calls Try.prog 14 #[.agg #[.int .i64 r, .int .i64 f, .int .i64 u, .slice B k1.length c1], .agg #[.int .i64 r', .int .i64 f', .int .i64 u', .slice B' k1'.length c1']] W fun e w' => e = .returned (.bool (sameT (.mk r f u k1) (.mk r' f' u' k1'))) ∧ Below W.heap.size W w' := fun W hW =>
          IH.out _ hmem _ _ _ W S (hT.keep (fun _ h => h) (fun p hp => hW.cell (hS _ hp))) (hT'.keep (fun _ h => h) (fun p hp => hW.cell (hS _ hp))) (fun b h => by have := hS _ h; have := hW.size; omega)
        have HCall := Lib.hid hcall
        clear hcall hT hT' hg hg' hmem
        generalize sameT (.mk r f u k1) (.mk r' f' u' k1') = x at HCall HD
        have hba : (ad.add (j * 4)).block < wr.heap.size := by rw [add_block]; have := hS _ hab; omega
        have hba' : (ad'.add (j * 4)).block < wr.heap.size := by rw [add_block]; have := hS _ hab'; omega
        go_wp2_with fail
        refine (HCall.out _ (by repeat (first | exact Below.refl _ _ | assumption | refine Below.drew ?_ | refine below_drewN ?_ _ | refine Below.alloc ?_ (by first | omega | (simp; omega) | simp) _ | refine Below.setCell ?_ (by first | omega | (simp; omega) | simp) _))).mono ?_
        rintro e w2 ⟨rfl, hb2⟩
        have hw2 : Below w.heap.size w w2 := Below.trans (by repeat (first | exact Below.refl _ _ | assumption | refine Below.drew ?_ | refine below_drewN ?_ _ | refine Below.alloc ?_ (by first | omega | (simp; omega) | simp) _ | refine Below.setCell ?_ (by first | omega | (simp; omega) | simp) _)) (hb2.mono (by first | omega | (simp; omega) | simp))
        clear hb2
        cases x
        · have HF : Hid (sameAll ks ks' = false) := HR.out.trans (by rw [HD.out, Bool.false_and])
          go_wp2
          go_ret
          exact ⟨ret_bool HF.out.symm, hw2⟩
        · go_wp2
          go_roundw
          case rel => exact ⟨j + 1, by omega, by go_num, HR.out.trans (by rw [HD.out, Bool.true_and]), hw2⟩
          case measure => simp [intOf]; omega
      · obtain rfl : j = n := by omega
        have HF : Hid (sameAll ks ks' = true) := HR.out.trans (by rw [List.drop_of_length_le (by rw [← HN.out]; omega), List.drop_of_length_le (by rw [← HN'.out]; omega), sameAll])
        go_wp2
        go_ret
        exact ⟨ret_bool HF.out.symm, hwr⟩
  · have HF : Hid (sameAll ks ks' = false) := sameAll_len _ _ (by rw [← HN.out, ← HN'.out]; exact hnn)
    have hb : ((n : Int) != (n' : Int)) = true := by rw [bne_iff_ne]; omega
    go_enter Try.func47, Try.ntmps47
    go_wp2
    go_ret
    exact ⟨ret_bool HF.out.symm, Below.refl _ _⟩

set_option maxRecDepth 100000 in
theorem same_any (t : Tr) : SameAt t := by
  refine Tr.ind (P := SameAt) ?_ t
  intro r f u ks ih t' cs cs' w S ht ht' hS
  cases t' with
  | mk r' f' u' ks' =>
  obtain ⟨A, cp, rfl, hk⟩ := ht.kids
  obtain ⟨A', cp', rfl, hk'⟩ := ht'.kids
  have hcall := fun (W : World) (hW : Below w.heap.size w W) => equalF_any ks ks' ih A A' ks.length ks'.length cp cp' W S (hk.keep (fun _ h => h) (fun p hp => hW.cell (hS _ hp))) (hk'.keep (fun _ h => h) (fun p hp => hW.cell (hS _ hp))) (fun b h => by have := hS _ h; have := hW.size; omega)
  have HCall := Lib.hid hcall
  have HF : Hid (sameT (.mk r f u ks) (.mk r' f' u' ks') = (r == r' && (f == f' && (u == u' && sameAll ks ks')))) := by show _ = _; rw [sameT]
  clear hcall ih ht ht' hk hk'
  generalize sameAll ks ks' = x at HCall HF
  cases h1 : (r == r')
  · go_enter Try.func14, Try.ntmps14
    go_wp2
    go_ret
    exact ⟨ret_bool (by rw [HF.out, h1]; rfl), (by repeat (first | exact Below.refl _ _ | assumption | refine Below.drew ?_ | refine below_drewN ?_ _ | refine Below.alloc ?_ (by first | omega | (simp; omega) | simp) _ | refine Below.setCell ?_ (by first | omega | (simp; omega) | simp) _))⟩
  cases h2 : (f == f')
  · go_enter Try.func14, Try.ntmps14
    go_wp2
    go_ret
    exact ⟨ret_bool (by rw [HF.out, h1, h2]; rfl), (by repeat (first | exact Below.refl _ _ | assumption | refine Below.drew ?_ | refine below_drewN ?_ _ | refine Below.alloc ?_ (by first | omega | (simp; omega) | simp) _ | refine Below.setCell ?_ (by first | omega | (simp; omega) | simp) _))⟩
  cases h3 : (u == u')
  · go_enter Try.func14, Try.ntmps14
    go_wp2
    go_ret
    exact ⟨ret_bool (by rw [HF.out, h1, h2, h3]; rfl), (by repeat (first | exact Below.refl _ _ | assumption | refine Below.drew ?_ | refine below_drewN ?_ _ | refine Below.alloc ?_ (by first | omega | (simp; omega) | simp) _ | refine Below.setCell ?_ (by first | omega | (simp; omega) | simp) _))⟩
  rw [h1, h2, h3] at HF
  go_enter Try.func14, Try.ntmps14
  go_wp2_with fail
  refine (HCall.out _ (by repeat (first | exact Below.refl _ _ | assumption | refine Below.drew ?_ | refine below_drewN ?_ _ | refine Below.alloc ?_ (by first | omega | (simp; omega) | simp) _ | refine Below.setCell ?_ (by first | omega | (simp; omega) | simp) _))).mono ?_
  rintro e w2 ⟨rfl, hb2⟩
  have hw2 : Below w.heap.size w w2 := Below.trans (by repeat (first | exact Below.refl _ _ | assumption | refine Below.drew ?_ | refine below_drewN ?_ _ | refine Below.alloc ?_ (by first | omega | (simp; omega) | simp) _ | refine Below.setCell ?_ (by first | omega | (simp; omega) | simp) _)) (hb2.mono (by first | omega | (simp; omega) | simp)); have hzw2 := hw2.size; clear hb2
  go_wp2
  go_ret
  exact ⟨ret_bool (by rw [HF.out]; simp), hw2⟩
end Go.Proofs.Ytkmcnekjimobhaa
