/- What chaffref.SameTree answers. Events are built to trees: plain. What event.Build holds in memory: the stack of what is open. Drawn regions (QSpl): a read is taken first also where late operations wait for it through others. Trees while they are made: the parser, Does, the tree's block and its row of kids. How deep an expression is: plain. How many trees an expression's meaning takes: plain. -/
import Derived.Test.YtndhbdbfjkmloaaDoorJTopText24
import Derived.Laws.OwnMore
import Derived.Test.YtndhbdbfjkmloaaDoorJTopText7
import Derived.Test.YtndhbdbfjkmloaaDoorJTopText20
namespace Go.Proofs.YtndhbdbfjkmloaaDoor
set_option maxRecDepth 100000
open Go.RowKit
mutual
def sameT : Tr -> Tr -> Bool
  | .mk r f u ks, .mk r' f' u' ks' => r == r' && (f == f' && (u == u' && sameAll ks ks'))
def sameAll : List Tr -> List Tr -> Bool
  | [], [] => true
  | t :: ts, t' :: ts' => sameT t t' && sameAll ts ts'
  | [], _ :: _ => false
  | _ :: _, [] => false
end
theorem sameAll_len : ∀ (a b : List Tr), a.length ≠ b.length -> sameAll a b = false
  | [], [], h => by simp at h
  | [], _ :: _, _ => by rw [sameAll]
  | _ :: _, [], _ => by rw [sameAll]
  | x :: a, y :: b, h => by
    rw [sameAll, sameAll_len a b (by simpa using h), Bool.and_false]
theorem sameAll_eq : ∀ (a : List Tr), (∀ t ∈ a, ∀ t', sameT t t' = true ↔ t = t') -> ∀ b, sameAll a b = true ↔ a = b
  | [], _, [] => by simp [sameAll]
  | [], _, _ :: _ => by simp [sameAll]
  | _ :: _, _, [] => by simp [sameAll]
  | x :: a, h, y :: b => by
    rw [sameAll, Bool.and_eq_true, h x (by simp) y, sameAll_eq a (fun t ht => h t (by simp [ht])) b, List.cons.injEq]
theorem sameT_eq (t : Tr) : ∀ t', sameT t t' = true ↔ t = t' := by
  refine Tr.ind (P := fun t => ∀ t', sameT t t' = true ↔ t = t') ?_ t
  intro r f u ks ih t'
  cases t' with
  | mk r' f' u' ks' =>
    rw [sameT]
    simp only [Bool.and_eq_true, beq_iff_eq, sameAll_eq ks ih ks', Tr.mk.injEq]
    
def Kids (w : World) (S : Nat -> Prop) (ks : List Tr) (A : Option Addr) (n cp : Nat) : Prop :=
  n = ks.length /\ n <= cp /\ cp <= maxLen /\ (0 < n -> ∃ ad : Addr, A = some ad /\ S ad.block) /\
  ∃ row : Nat -> List Value, (∀ i t, ks[i]? = some t -> TrIs w S t (row i)) /\ (∀ i t ad, ks[i]? = some t -> A = some ad -> ∀ j u, (row i)[j]? = some u -> w.cell? ((ad.add (i * 4)).add j) = some u)
theorem Kids.keep {w w' : World} {S S' : Nat -> Prop} {ks : List Tr} {A : Option Addr} {n cp : Nat} (h : Kids w S ks A n cp) (hS : ∀ b, S b -> S' b) (hk : ∀ p : Addr, S p.block -> w'.cell? p = w.cell? p) : Kids w' S' ks A n cp := by
  obtain ⟨h1, h2, h3, h4, row, h5, h6⟩ := h
  refine ⟨h1, h2, h3, fun h0 => ?_, row, fun i t ht => (h5 i t ht).keep hS hk, fun i t ad ht hA j v hv => ?_⟩
  · obtain ⟨ad, e, hs⟩ := h4 h0
    exact ⟨ad, e, hS _ hs⟩
  · obtain ⟨ad', e', hs⟩ := h4 (by have := getElem?_lt ht; omega)
    rw [hA] at e'
    injection e' with e'
    subst e'
    rw [hk _ (by rw [add_block, add_block]; exact hs)]
    exact h6 i t ad ht hA j v hv
theorem Kids.at_ {w : World} {S : Nat -> Prop} {ks : List Tr} {A : Option Addr} {n cp j : Nat} (h : Kids w S ks A n cp) (hj : j < n) :
    ∃ ad r f u ks' A' cp', A = some ad /\ S ad.block /\ ks[j]? = some (.mk r f u ks') /\ TrIs w S (.mk r f u ks') [.int .i64 r, .int .i64 f, .int .i64 u, .slice A' ks'.length cp'] /\
      w.cell? (ad.add (j * 4)) = some (.int .i64 r) /\ w.cell? ⟨(ad.add (j * 4)).block, (ad.add (j * 4)).off + 1, none⟩ = some (.int .i64 f) /\
      w.cell? ⟨(ad.add (j * 4)).block, (ad.add (j * 4)).off + 2, none⟩ = some (.int .i64 u) /\ w.cell? ⟨(ad.add (j * 4)).block, (ad.add (j * 4)).off + 3, none⟩ = some (.slice A' ks'.length cp') := by
  obtain ⟨h1, h2, h3, h4, row, h5, h6⟩ := h
  obtain ⟨ad, rfl, hs⟩ := h4 (by omega)
  have hej : ks[j]? = some (ks[j]'(by omega)) := List.getElem?_eq_getElem (by omega)
  generalize ks[j]'(by omega) = ej at hej
  have hT := h5 j ej hej
  have hcj := h6 j ej ad hej rfl
  generalize row j = rj at hT hcj
  cases ej with
  | mk r f u ks' =>
    have hT2 := hT
    cases hT with
    | mk _ _ _ _ A' cp' row' hl' hm' hb' hr' hc' =>
      exact ⟨ad, r, f, u, ks', A', cp', rfl, hs, hej, hT2, hcj 0 _ rfl, hcj 1 _ rfl, hcj 2 _ rfl, hcj 3 _ rfl⟩
theorem TrIs.kids {w : World} {S : Nat -> Prop} {r f u : Int} {ks : List Tr} {cs : List Value} (h : TrIs w S (.mk r f u ks) cs) : ∃ A cp, cs = [.int .i64 r, .int .i64 f, .int .i64 u, .slice A ks.length cp] /\ Kids w S ks A ks.length cp := by
  cases h with
  | mk _ _ _ _ A cp row hl hm hb hr hc => exact ⟨A, cp, rfl, rfl, hl, hm, hb, row, hr, hc⟩
def SameAt (t : Tr) : Prop := ∀ (t' : Tr) (cs cs' : List Value) (w : World) (S : Nat -> Prop), TrIs w S t cs -> TrIs w S t' cs' -> (∀ b, S b -> b < w.heap.size) ->
  Calls Tryd.prog 27 #[.agg cs.toArray, .agg cs'.toArray] w fun e w' => e = .returned (.bool (sameT t t')) /\ Below w.heap.size w w'
theorem equalF_any (ks ks' : List Tr) (ih : ∀ t ∈ ks, SameAt t) (A A' : Option Addr) (n n' cp cp' : Nat) (w : World) (S : Nat -> Prop) (h : Kids w S ks A n cp) (h' : Kids w S ks' A' n' cp') (hS : ∀ b, S b -> b < w.heap.size) :
    Calls Tryd.prog 55 #[.slice A n cp, .slice A' n' cp', .func (.func 27) #[] #[]] w fun e w' => e = .returned (.bool (sameAll ks ks')) /\ Below w.heap.size w w' := by
  have HN := Lib.hid h.1
  have HN' := Lib.hid h'.1
  have hmx := h.2.2.1
  have hmn := h.2.1
  unfold maxLen at hmx
  have IH := Lib.hid ih
  clear ih
  by_cases hnn : n = n'
  · subst hnn
    go_enter Tryd.func55, Tryd.ntmps55
    go_wp2
    go_loopw [7, 8, 9, 17] (fun _ _ _ i wr => ∃ j : Nat, j <= n /\ i = .int .i64 j /\ Hid (sameAll ks ks' = sameAll (ks.drop j) (ks'.drop j)) /\ Below w.heap.size w wr) (fun _ _ _ i _ => n - (intOf i).toNat)
    case atStart => exact ⟨0, by omega, rfl, rfl, Below.refl _ _⟩
    case round =>
      obtain ⟨j, hj, rfl, HR, hwr⟩ := hrel
      have hwz := hwr.size
      by_cases hjn : j < n
      · obtain ⟨ad, r, f, u, k1, B, c1, rfl, hab, hg, hT, e0, e1, e2, e3⟩ := (h.keep (fun _ h => h) (fun p hp => hwr.cell (hS _ hp)) : Kids wr S ks A n cp).at_ hjn
        obtain ⟨ad', r', f', u', k1', B', c1', rfl, hab', hg', hT', e0', e1', e2', e3'⟩ := (h'.keep (fun _ h => h) (fun p hp => hwr.cell (hS _ hp)) : Kids wr S ks' A' n cp').at_ hjn
        have hmem := List.mem_of_getElem? hg
        have HD : Hid (sameAll (ks.drop j) (ks'.drop j) = (sameT (.mk r f u k1) (.mk r' f' u' k1') && sameAll (ks.drop (j + 1)) (ks'.drop (j + 1)))) := by
          show _ = _
          have l1 := getElem?_lt hg
          have l2 := getElem?_lt hg'
          rw [List.getElem?_eq_getElem l1] at hg
          rw [List.getElem?_eq_getElem l2] at hg'
          injection hg with hg
          injection hg' with hg'
          rw [List.drop_eq_getElem_cons l1, List.drop_eq_getElem_cons l2, hg, hg', sameAll]
        have hcall : ∀ W : World, Below w.heap.size wr W -> Calls Tryd.prog 27 #[.agg #[.int .i64 r, .int .i64 f, .int .i64 u, .slice B k1.length c1], .agg #[.int .i64 r', .int .i64 f', .int .i64 u', .slice B' k1'.length c1']] W fun e w' => e = .returned (.bool (sameT (.mk r f u k1) (.mk r' f' u' k1'))) /\ Below W.heap.size W w' := fun W hW =>
          IH.out _ hmem _ _ _ W S (hT.keep (fun _ h => h) (fun p hp => hW.cell (hS _ hp))) (hT'.keep (fun _ h => h) (fun p hp => hW.cell (hS _ hp))) (fun b h => by have := hS _ h; have := hW.size; omega)
        have HCall := Lib.hid hcall
        clear hcall hT hT' hg hg' hmem
        generalize sameT (.mk r f u k1) (.mk r' f' u' k1') = x at HCall HD
        have hba : (ad.add (j * 4)).block < wr.heap.size := by rw [add_block]; have := hS _ hab; omega
        have hba' : (ad'.add (j * 4)).block < wr.heap.size := by rw [add_block]; have := hS _ hab'; omega
        go_wp2_with fail
        refine (HCall.out _ bl).mono ?_
        rintro e w2 ⟨rfl, hb2⟩
        have hw2 : Below w.heap.size w w2 := Below.trans bl (hb2.mono (by first | omega | (simp; omega) | simp))
        clear hb2
        cases x
        · have HF : Hid (sameAll ks ks' = false) := HR.out.trans (by rw [HD.out, Bool.false_and])
          go_wp2
          go_ret
          exact ⟨ret_bool HF.out.symm, hw2⟩
        · go_wp2
          go_roundw
          case rel => exact ⟨j + 1, by omega, by go_num, HR.out.trans (by rw [HD.out, Bool.true_and]), hw2⟩
          case measure => simp [intOf]; omega
      · obtain rfl : j = n := by omega
        have HF : Hid (sameAll ks ks' = true) := HR.out.trans (by rw [List.drop_of_length_le (by rw [<- HN.out]; omega), List.drop_of_length_le (by rw [<- HN'.out]; omega), sameAll])
        go_wp2
        go_ret
        exact ⟨ret_bool HF.out.symm, hwr⟩
  · have HF : Hid (sameAll ks ks' = false) := sameAll_len _ _ (by rw [<- HN.out, <- HN'.out]; exact hnn)
    have hb : ((n : Int) != (n' : Int)) = true := by rw [bne_iff_ne]; omega
    go_enter Tryd.func55, Tryd.ntmps55
    go_wp2
    go_ret
    exact ⟨ret_bool HF.out.symm, Below.refl _ _⟩
theorem same_any (t : Tr) : SameAt t := by
  refine Tr.ind (P := SameAt) ?_ t
  intro r f u ks ih t' cs cs' w S ht ht' hS
  cases t' with
  | mk r' f' u' ks' =>
  obtain ⟨A, cp, rfl, hk⟩ := ht.kids
  obtain ⟨A', cp', rfl, hk'⟩ := ht'.kids
  have hcall := fun (W : World) (hW : Below w.heap.size w W) => equalF_any ks ks' ih A A' ks.length ks'.length cp cp' W S (hk.keep (fun _ h => h) (fun p hp => hW.cell (hS _ hp))) (hk'.keep (fun _ h => h) (fun p hp => hW.cell (hS _ hp))) (fun b h => by have := hS _ h; have := hW.size; omega)
  have HCall := Lib.hid hcall
  have HF : Hid (sameT (.mk r f u ks) (.mk r' f' u' ks') = (r == r' && (f == f' && (u == u' && sameAll ks ks')))) := by show _ = _; rw [sameT]
  clear hcall ih ht ht' hk hk'
  generalize sameAll ks ks' = x at HCall HF
  cases h1 : (r == r')
  · go_enter Tryd.func27, Tryd.ntmps27
    go_wp2
    go_ret
    exact ⟨ret_bool (by rw [HF.out, h1]; rfl), bl⟩
  cases h2 : (f == f')
  · go_enter Tryd.func27, Tryd.ntmps27
    go_wp2
    go_ret
    exact ⟨ret_bool (by rw [HF.out, h1, h2]; rfl), bl⟩
  cases h3 : (u == u')
  · go_enter Tryd.func27, Tryd.ntmps27
    go_wp2
    go_ret
    exact ⟨ret_bool (by rw [HF.out, h1, h2, h3]; rfl), bl⟩
  rw [h1, h2, h3] at HF
  go_enter Tryd.func27, Tryd.ntmps27
  go_wp2_with fail
  refine (HCall.out _ bl).mono ?_
  rintro e w2 ⟨rfl, hb2⟩
  have hw2 : Below w.heap.size w w2 := Below.trans bl (hb2.mono (by first | omega | (simp; omega) | simp)); have hzw2 := hw2.size; clear hb2
  go_wp2
  go_ret
  exact ⟨ret_bool (by rw [HF.out]; simp), hw2⟩
end Go.Proofs.YtndhbdbfjkmloaaDoor
namespace Go.Proofs.YtndhbdbfjkmloaaDoor
set_option maxRecDepth 100000
abbrev Fr := Int × Int × List Tr
end Go.Proofs.YtndhbdbfjkmloaaDoor
namespace Go.Proofs.YtndhbdbfjkmloaaDoor
set_option maxRecDepth 100000
open Go.RowKit
def KidsAre (w : World) (S : Nat -> Prop) : List Tr -> List Value -> Prop
  | [], xs => xs = []
  | t :: ts, xs => ∃ c rest, xs = c ++ rest /\ TrIs w S t c /\ KidsAre w S ts rest
theorem KidsAre.snoc {w : World} {S : Nat -> Prop} {t : Tr} {c : List Value} (ht : TrIs w S t c) : ∀ {ks : List Tr} {xs : List Value}, KidsAre w S ks xs -> KidsAre w S (ks ++ [t]) (xs ++ c)
  | [], xs, h => by
    have h : xs = [] := h
    subst h
    exact ⟨c, [], by simp, ht, rfl⟩
  | t' :: ks, xs, h => by
    obtain ⟨c', rest, rfl, h1, h2⟩ := h
    exact ⟨c', rest ++ c, by simp, h1, h2.snoc ht⟩
theorem KidsAre.keep {w w' : World} {S S' : Nat -> Prop} (hS : ∀ b, S b -> S' b) (hk : ∀ p : Addr, S p.block -> w'.cell? p = w.cell? p) : ∀ {ks : List Tr} {xs : List Value}, KidsAre w S ks xs -> KidsAre w' S' ks xs
  | [], _, h => h
  | _ :: _, _, h => by
    obtain ⟨c, rest, rfl, h1, h2⟩ := h
    exact ⟨c, rest, rfl, h1.keep hS hk, KidsAre.keep hS hk h2⟩
theorem KidsAre.at_ {w : World} {S : Nat -> Prop} : ∀ {ks : List Tr} {xs : List Value}, KidsAre w S ks xs -> ∀ (i : Nat) (t : Tr), ks[i]? = some t -> ∃ c, TrIs w S t c /\ ∀ j u, c[j]? = some u -> xs[i * 4 + j]? = some u
  | [], _, _, i, t, h => by simp at h
  | t' :: ks, xs, h, 0, t, ht => by
    obtain ⟨c, rest, rfl, h1, h2⟩ := h
    simp at ht
    subst ht
    exact ⟨c, h1, fun j u hu => by rw [Nat.zero_mul, Nat.zero_add, List.getElem?_append_left (getElem?_lt hu)]; exact hu⟩
  | t' :: ks, xs, h, i + 1, t, ht => by
    obtain ⟨c, rest, rfl, h1, h2⟩ := h
    obtain ⟨c', h3, h4⟩ := KidsAre.at_ h2 i t (by simpa using ht)
    have hl := h1.len
    exact ⟨c', h3, fun j u hu => by rw [List.getElem?_append_right (by omega), <- h4 j u hu, hl]; congr 1; omega⟩
def StackIs (w : World) (S : Nat -> Prop) (base : Nat) : List Fr -> List Value -> List Nat -> Prop
  | [], xs, used => xs = [] /\ used = []
  | (r, f, ks) :: st, xs, used => ∃ ys A c kxs used', xs = ys ++ [.int .i64 r, .int .i64 f, .int .i64 0, .slice A ks.length c] /\ w.ownsRow base 60 4 (.slice A ks.length c) ks.length kxs /\ KidsAre w S ks kxs /\
      used = (Value.slice A ks.length c).ownBlock.toList ++ used' /\ StackIs w S base st ys used'
theorem own_heap {w w' : World} {base : Nat} {e : TypeId} {size : Nat} {v : Value} {n : Nat} {xs : List Value} (h : w.ownsRow base e size v n xs) (hk : ∀ b, v.ownBlock = some b -> w'.heap[b]? = w.heap[b]?) : w'.ownsRow base e size v n xs := by
  refine ⟨h.1, h.2.imp id ?_⟩
  rintro ⟨g, cap, cur, rfl, h1, h2, h3⟩
  exact ⟨g, cap, cur, rfl, h1, (hk g rfl).trans h2, h3⟩
theorem StackIs.keep {w w' : World} {S S' : Nat -> Prop} {base : Nat} (hS : ∀ b, S b -> S' b) (hk : ∀ p : Addr, S p.block -> w'.cell? p = w.cell? p) : ∀ {st : List Fr} {xs : List Value} {used : List Nat}, StackIs w S base st xs used -> (∀ b ∈ used, w'.heap[b]? = w.heap[b]?) -> StackIs w' S' base st xs used
  | [], _, _, h, _ => h
  | (r, f, ks) :: st, _, _, h, hu => by
    obtain ⟨ys, A, c, kxs, used', rfl, h1, h2, rfl, h3⟩ := h
    exact ⟨ys, A, c, kxs, used', rfl, own_heap h1 (fun b hb => hu b (by rw [hb]; simp)), h2.keep hS hk, rfl, StackIs.keep hS hk h3 fun b hb => hu b (by simp [hb])⟩
theorem StackIs.len {w : World} {S : Nat -> Prop} {base : Nat} : ∀ {st : List Fr} {xs : List Value} {used : List Nat}, StackIs w S base st xs used -> xs.length = st.length * 4
  | [], _, _, h => by rw [h.1]; rfl
  | (r, f, ks) :: st, _, _, h => by
    obtain ⟨ys, A, c, kxs, used', rfl, h1, h2, rfl, h3⟩ := h
    have := StackIs.len h3
    simp
    omega
theorem StackIs.lt {w : World} {S : Nat -> Prop} {base : Nat} : ∀ {st : List Fr} {xs : List Value} {used : List Nat}, StackIs w S base st xs used -> ∀ b ∈ used, base <= b /\ b < w.heap.size
  | [], _, _, h => by rw [h.2]; simp
  | (r, f, ks) :: st, _, _, h => by
    obtain ⟨ys, A, c, kxs, used', rfl, h1, h2, rfl, h3⟩ := h
    intro b hb
    rcases List.mem_append.1 hb with hb | hb
    · exact h1.lt b (by simpa using hb)
    · exact StackIs.lt h3 b hb
structure BldMem (w : World) (base : Nat) (st : List Fr) (V : Option Addr) (m cp : Nat) (xs : List Value) (used : List Nat) (S : Nat -> Prop) : Prop where
  cnt : m = st.length
  own : w.ownsRow base 60 4 (.slice V m cp) m xs
  stack : StackIs w S base st xs used
  nodup : used.Nodup
  ne : ∀ b ∈ used, some b ≠ (Value.slice V m cp).ownBlock
  sep : ∀ b, S b -> b < w.heap.size /\ b ∉ used /\ some b ≠ (Value.slice V m cp).ownBlock
  low : ∀ b, S b -> base <= b
theorem BldMem.below {w w' : World} {base : Nat} {st : List Fr} {V : Option Addr} {m cp : Nat} {xs : List Value} {used : List Nat} {S : Nat -> Prop} (h : BldMem w base st V m cp xs used S) (hb : Below w.heap.size w w') : BldMem w' base st V m cp xs used S where
  cnt := h.cnt
  own := own_below h.own hb
  stack := h.stack.keep (fun _ h => h) (fun _ hp => hb.cell (h.sep _ hp).1) (fun b hu => hb.block b (h.stack.lt b hu).2)
  nodup := h.nodup
  ne := h.ne
  sep b hS := ⟨Nat.lt_of_lt_of_le (h.sep b hS).1 hb.size, (h.sep b hS).2⟩
  low := h.low
theorem BldMem.push {w w' : World} {base : Nat} {st : List Fr} {V : Option Addr} {m cp : Nat} {xs : List Value} {used : List Nat} {S : Nat -> Prop} (h : BldMem w base st V m cp xs used S) (r a : Int) {g cap : Nat}
    (hown : w'.ownsRow base 60 4 (.slice (some ⟨g, 0, none⟩) (m + 1) cap) (m + 1) (xs ++ [.int .i64 r, .int .i64 a, .int .i64 0, .slice none 0 0]))
    (hgrow : w.grownBy w' (Value.slice V m cp).ownBlock) (hat : (Value.slice V m cp).ownBlock = some g \/ g = w.heap.size) :
    BldMem w' base ((r, a, []) :: st) (some ⟨g, 0, none⟩) (m + 1) cap (xs ++ [.int .i64 r, .int .i64 a, .int .i64 0, .slice none 0 0]) used S where
  cnt := by rw [h.cnt]; rfl
  own := hown
  stack := ⟨xs, none, 0, [], used, rfl, ⟨rfl, .inl ⟨rfl, rfl⟩⟩, rfl, by simp [Value.ownBlock], h.stack.keep (fun _ h => h) (fun _ hp => World.cell?_of_block (hgrow.block _ (h.sep _ hp).1 (h.sep _ hp).2.2)) (fun b hu => hgrow.block b (h.stack.lt b hu).2 (h.ne b hu))⟩
  nodup := h.nodup
  ne b hb e := by
    simp [Value.ownBlock] at e
    rcases hat with h1 | h1
    · exact h.ne b hb (by rw [h1, e])
    · have := (h.stack.lt b hb).2
      omega
  sep b hS := by
    obtain ⟨h1, h2, h3⟩ := h.sep b hS
    refine ⟨Nat.lt_of_lt_of_le h1 hgrow.size, h2, fun e => ?_⟩
    simp [Value.ownBlock] at e
    rcases hat with h4 | h4
    · exact h3 (by rw [h4, e])
    · omega
  low := h.low
end Go.Proofs.YtndhbdbfjkmloaaDoor
namespace Go.Proofs.YtndhbdbfjkmloaaDoor
set_option maxRecDepth 100000
section
variable {P : Program} {ops : Array Oper} {md : Region.Mode} {C : World -> Prop} {late : Nat -> Bool} {Q : Exit -> Act -> World -> Prop}
def Closed (md : Region.Mode) (ops : Array Oper) (listed : Array Bool) : Prop := ∀ (j : Nat) (oj : Oper), ops[j]? = some oj -> listed.getD j false = true -> ∀ e ∈ oj.after, Region.binds md e = true -> listed.getD e.on false = true
def closedB (md : Region.Mode) (ops : Array Oper) (listed : Array Bool) : Bool := (List.range ops.size).all fun j => match ops[j]? with
  | some oj => !(listed.getD j false) || oj.after.all fun e => !(Region.binds md e) || listed.getD e.on false
  | none => true
theorem closedB_spec {listed : Array Bool} (h : closedB md ops listed = true) : Closed md ops listed := by
  intro j oj hj hl e he hb
  unfold closedB at h
  have h1 := List.all_eq_true.1 h j (List.mem_range.2 (Array.getElem?_eq_some_iff.1 hj).1)
  simp only [hj, hl, Bool.not_true, Bool.false_or] at h1
  have h2 := Array.all_eq_true'.1 h1 e he
  simpa [hb] using h2
def waitsT (md : Region.Mode) (ops : Array Oper) : Nat -> Nat -> Nat -> Bool
  | 0, _, _ => false
  | f + 1, j, i => match ops[j]? with
    | some oj => oj.after.any fun e => Region.binds md e && (e.on == i || waitsT md ops f e.on i)
    | none => false
theorem waitsT_step {f j i : Nat} (h : waitsT md ops (f + 1) j i = true) : ∃ oj, ops[j]? = some oj /\ ∃ e ∈ oj.after, Region.binds md e = true /\ (e.on = i \/ waitsT md ops f e.on i = true) := by
  unfold waitsT at h
  split at h
  · rename_i oj hj
    obtain ⟨e, he, hb⟩ := Array.any_eq_true'.1 h
    simp only [Bool.and_eq_true, Bool.or_eq_true, beq_iff_eq] at hb
    exact ⟨oj, hj, e, he, hb.1, hb.2⟩
  · cases h
theorem waitsT_listed {listed : Array Bool} (hc : Closed md ops listed) : ∀ (f j i : Nat), waitsT md ops f j i = true -> listed.getD j false = true -> listed.getD i false = true
  | 0, _, _, h, _ => by cases h
  | f + 1, j, i, h, hl => by
    obtain ⟨oj, hj, e, he, hb, h1⟩ := waitsT_step h
    have h2 := hc j oj hj hl e he hb
    rcases h1 with h1 | h1
    · rw [<- h1]; exact h2
    · exact waitsT_listed hc f _ _ h1 h2
theorem waitsT_ready {listed : Array Bool} (hc : Closed md ops listed) {f j i : Nat} (h : waitsT md ops f j i = true) (hr : j ∈ Region.ready md ops listed) : listed.getD i false = true := by
  cases f with
  | zero => cases h
  | succ f =>
    obtain ⟨oj, hj, e, he, hb, h1⟩ := waitsT_step h
    obtain ⟨_, o', ho', hall⟩ := mem_ready.1 hr
    rw [hj] at ho'
    injection ho' with ho'
    subst ho'
    have h2 := hall e he hb
    rcases h1 with h1 | h1
    · rw [<- h1]; exact h2
    · exact waitsT_listed hc f _ _ h1 h2
def stillB (ops : Array Oper) (j : Nat) : Bool := match ops[j]? with
  | some o => (match o.op with
    | .move _ => true
    | _ => false)
  | none => false
theorem goesI_still {j : Nat} (h : stillB ops j = true) {K : Act -> World -> Prop} {a : Act} {w : World} (hg : goesI P ops j K a w) : goesI P ops j (fun a' w' => w' = w /\ K a' w') a w := by
  unfold stillB at h
  unfold goesI at *
  cases ho : ops[j]? with
  | none => rw [ho] at h; cases h
  | some o =>
    rw [ho] at h
    simp only [ho] at hg ⊢
    split
    · rename_i hw
      simp only [hw, if_true] at hg
      cases hop : o.op with
      | move x =>
        unfold stepT at *
        simp only [execOp, hop] at hg ⊢
        exact ⟨by trivial, hg⟩
      | _ => simp [hop] at h
    · rename_i hw
      simp only [hw] at hg
      exact ⟨by trivial, hg⟩
def lateT (md : Region.Mode) (ops : Array Oper) (late : Nat -> Bool) (i : Nat) : Bool := (List.range ops.size).all fun j => !late j || waitsT md ops ops.size j i || stillB ops j
theorem lateT_spec {i : Nat} (h : lateT md ops late i = true) {listed : Array Bool} (hc : Closed md ops listed) (hi : listed.getD i true = false) : ∀ j, late j = true -> j ∈ Region.ready md ops listed -> stillB ops j = true := by
  intro j hj hr
  obtain ⟨_, oj, hoj, _⟩ := mem_ready.1 hr
  unfold lateT at h
  have h1 := List.all_eq_true.1 h j (List.mem_range.2 (Array.getElem?_eq_some_iff.1 hoj).1)
  rw [hj] at h1
  simp only [Bool.not_true, Bool.false_or, Bool.or_eq_true] at h1
  rcases h1 with h1 | h1
  rotate_left
  · exact h1
  have h2 := waitsT_ready hc h1 hr
  rcases Nat.lt_or_ge i listed.size with h' | h'
  · simp [h'] at hi h2; rw [hi] at h2; cases h2
  · simp [Array.getElem?_eq_none h'] at h2
theorem Closed.set {listed : Array Bool} (hc : Closed md ops listed) {j : Nat} (hr : j ∈ Region.ready md ops listed) : Closed md ops (listed.setIfInBounds j true) := by
  intro k ok hk hl e he hb
  by_cases hkj : k = j
  · subst hkj
    obtain ⟨_, o', ho', hall⟩ := mem_ready.1 hr
    rw [hk] at ho'
    injection ho' with ho'
    subst ho'
    exact getD_set_true (hall e he hb)
  · rw [getD_set_ne false (Ne.symm hkj)] at hl
    exact getD_set_true (hc k ok hk hl e he hb)
theorem firstT {i : Nat} {oi : Oper} {v : Value} (hlate : lateT md ops late i = true) (hi : ops[i]? = some oi) (hsel : ∀ (j : Nat) (o : Oper) cs b, ops[j]? = some o -> o.op ≠ .select cs b) :
    ∀ (fuel : Nat) (listed : Array Bool) (a : Act) (w : World), C w -> Closed md ops listed ->
      (∀ j oj, ops[j]? = some oj -> j ≠ i -> listed.getD j true = false -> (∀ e ∈ oj.after, Region.binds md e = true -> e.on ≠ i) -> oi.apart ops oj = true) ->
      i ∈ Region.ready md ops listed -> ReadC P ops C oi v a ->
      wpAnyL2 P md ops C late Q fuel (listed.setIfInBounds i true) (a.put oi.dst v) w -> wpAnyL2 P md ops C late Q (fuel + 1) listed a w := by
  intro fuel
  induction fuel with
  | zero =>
    intro listed a w hC _ _ hr hy H
    refine ⟨fun h => (by rw [h] at hr; cases hr), fun j hj => ?_⟩
    by_cases hji : j = i
    · subst hji; exact hy.goes hi hC ⟨fun _ => hC, H⟩
    · have := ready_mono hj hji
      rw [H.1] at this
      cases this
  | succ fuel ih =>
    intro listed a w hC hcl hfree hr hy H
    refine ⟨fun h => (by rw [h] at hr; cases hr), fun j hj => ?_⟩
    by_cases hji : j = i
    · subst hji; exact hy.goes hi hC ⟨fun _ => hC, H⟩
    · have h1 : goesI P ops j (fun a' w' => (late j = false -> C w') /\ C w' /\ wpAnyL2 P md ops C late Q fuel ((listed.setIfInBounds i true).setIfInBounds j true) a' w') (a.put oi.dst v) w := by
        have h0 := H.2 j (ready_mono hj hji)
        cases hl : late j with
        | false => rw [hl] at h0; exact goesI.mono (fun a' w' h => ⟨h.1, h.1 rfl, h.2⟩) h0
        | true =>
          have hst := lateT_spec hlate hcl (mem_ready.1 hr).1 j hl hj
          exact goesI.mono (fun a' w' h => ⟨fun h => (by cases h), by rw [h.1]; exact hC, h.2.2⟩) (goesI_still hst h0)
      obtain ⟨hjun, oj, hoj, hall⟩ := mem_ready.1 hj
      have hnot : ∀ e ∈ oj.after, Region.binds md e = true -> e.on ≠ i := fun e he hb heq => by
        have h1 := hall e he hb
        have h0 := (mem_ready.1 hr).1
        rw [heq] at h1
        rcases Nat.lt_or_ge i listed.size with h' | h'
        · simp [h'] at h0 h1; rw [h0] at h1; cases h1
        · simp [Array.getElem?_eq_none h'] at h1
      have h2 := goesI_put hoj (hfree j oj hoj hji hjun hnot) (fun cs b => hsel i oi cs b hi) (fun cs b => hsel j oj cs b hoj) hy h1
      have hfree' : ∀ k ok, ops[k]? = some ok -> k ≠ i -> (listed.setIfInBounds j true).getD k true = false ->
          (∀ e ∈ ok.after, Region.binds md e = true -> e.on ≠ i) -> oi.apart ops ok = true := fun k ok hk hki hun hno => by
        refine hfree k ok hk hki ?_ hno
        by_cases hjk : j = k
        · subst hjk; exact hjun
        · rw [getD_set_ne true hjk] at hun; exact hun
      refine goesI.mono (fun a' w' h3 => ⟨h3.2.1, ih (listed.setIfInBounds j true) a' w' (h3.2.2.1) (hcl.set hj) hfree' (ready_mono hr (Ne.symm hji)) h3.1 ?_⟩) h2
      rw [Array.setIfInBounds_comm _ _ hji]
      exact h3.2.2.2
theorem L.rdt {f i : Nat} {o : Oper} {listed : Array Bool} {a : Act} {w : World} (hi : ops.toList[i]? = some o) (hb : (Region.noSelect ops && (Region.ready md ops listed).contains i && Region.free md ops listed i && lateT md ops late i && closedB md ops listed) = true) (hC : C w) (hg : o.guard = none) {v : Value} (hy : ∀ W, C W -> readW P o a W v)
    (h : wpAnyL2 P md ops C late Q f (listed.setIfInBounds i true) (a.put o.dst v) w) : wpAnyL2 P md ops C late Q (f + 1) listed a w := by
  rw [Array.getElem?_toList] at hi
  simp only [Bool.and_eq_true] at hb
  exact firstT hb.1.2 hi (Region.noSelect_spec hb.1.1.1.1) f listed a w hC (closedB_spec hb.2) (Region.free_spec hi hb.1.1.2) (by simpa using hb.1.1.1.2) (.inl ⟨by simp [Region.wanted, hg], hy⟩) h
end
end Go.Proofs.YtndhbdbfjkmloaaDoor
namespace Go.Proofs.YtndhbdbfjkmloaaDoor
set_option maxHeartbeats 4000000
set_option maxRecDepth 100000
open Go.RowKit Go.Maps
def PP (c : PC) (w : World) : Prop := ∃ σ, Par c w σ /\ Agree c.g c.s.data.toList σ /\ Bound c.s.data.toList.length σ
section
variable {c : PC} {w w' : World}
theorem PP.below (h : PP c w) (hok : c.Ok) (hb : Below w.heap.size w w') : PP c w' := by
  obtain ⟨σ, h1, h2, h3⟩ := h
  exact ⟨σ, h1.below hok hb, h2, h3⟩
theorem PP.drew (h : PP c w) : PP c w.drew := by
  obtain ⟨σ, h1, h2, h3⟩ := h
  exact ⟨σ, h1.drew, h2, h3⟩
theorem PP.c0 (h : PP c w) : w.cell? ⟨c.P, 0, none⟩ = some (.slice c.A c.n c.cp) := h.choose_spec.1.c0
theorem PP.size (h : PP c w) : c.base <= w.heap.size := h.choose_spec.1.size
theorem PP.gram (h : PP c w) : GrIs w c.B c.g c.A c.cp c.row := h.choose_spec.1.gram
theorem PP.far (h : PP c w) (hok : c.Ok) {k : Nat} {T : TypeId} {cs : Array Value} (hb : Blk w k T cs) (hT : T ≠ 150) (h3 : c.base <= k) (j : Nat) (u : Value) : PP c (w.setCell ⟨k, j, none⟩ u) := by
  obtain ⟨σ, h1, h2, h4⟩ := h
  have := hok.P
  have := hok.M
  exact ⟨σ, h1.far hok hb hT (by omega) (by omega) h3 j u, h2, h4⟩
theorem PP.grown (h : PP c w) (hok : c.Ok) {v : Value} {base n size : Nat} {T : TypeId} {xs : List Value} (hT : T ≠ 150) (ho : w.ownsRow base T size v n xs) (hb : c.base <= base) (hg : w.grownBy w' v.ownBlock) : PP c w' := by
  obtain ⟨σ, ⟨⟨lv, a1, a2⟩, a3, a4, a5, a6, a7, a8⟩, h2, h4⟩ := h
  have hne : ∀ k, k < c.base -> some k ≠ v.ownBlock := fun k hk e => by have := (ho.lt k e.symm).1; omega
  have hP := hok.P
  have hM := hok.M
  have hF := hok.F
  have hl : lv.ownBlock = none \/ lv.ownBlock ≠ v.ownBlock := by
    cases hv : lv.ownBlock with
    | none => exact .inl rfl
    | some k =>
      refine .inr fun e => ?_
      rcases a2.2 with ⟨rfl, _⟩ | ⟨g, cap, cur, rfl, hb', hgg, _⟩
      · cases hv
      · rcases ho.2 with ⟨rfl, _⟩ | ⟨g2, cap2, cur2, rfl, hb2, hgg2, _⟩
        · cases e
        · simp only [Value.ownBlock, Option.some.injEq] at hv e
          subst hv
          subst e
          rw [hgg] at hgg2
          injection hgg2 with hgg2
          injection hgg2 with e1 e2 e3
          exact hT e2.symm
  refine ⟨σ, ⟨⟨lv, a1.grown hg (hne _ hP), a2.kept hg hl⟩, a3.kept hg (hne _ hM.1), fun i x hi => (World.cell?_of_block (hg.block _ (by simp; omega) (hne _ hF))).trans (a4 i x hi), Nat.le_trans a5 hg.size, a6.on ⟨hg.os, hg.tape, hg.output, hg.size, fun k hk => ?_⟩, a7, a8.keep fun k hh hk he => hg.block k hk (hne _ ?_)⟩, h2, h4⟩
  · have := hok.Bb
    exact hg.block k (by omega) (hne _ (by omega))
  · have := hok.bx hh
    omega
end
theorem doesb_any {c : PC} (hok : c.Ok) {g : List Rl} {m : Nat} (hN : DoesNode c g m) (e : Ex) (p : Nat) (σ : PS) (r : Option Nat × PS) (cs : List Value) (w : World) (hpk : pk g c.s.data.toList c.hk m (.node e 0) p σ = some r) (hE : ExIs w c.B e cs) (hR : RtW g e) (hnum : nodes e <= c.lim)
    (hp : p <= c.s.data.toList.length) (hB : Bound c.s.data.toList.length σ) (h : Par c w σ) :
    Calls Tryd.prog 111 #[.pointer (some ⟨c.P, 0, none⟩), .agg cs.toArray, .int .i64 p] w fun e' w' => e' = .returned (.bool r.1.isSome) /\ Par c w' r.2 /\ Keeps c w w' := by
  have hsz := h.size
  have hb1 := hok.Bb
  obtain ⟨k, a, b, d1, d2, t, A, n, cp, rfl⟩ := e.parts hE
  have hal : Below w.heap.size w (w.alloc (.cells #[.int .i64 k, .int .u64 a, .int .u64 b, .int .u64 d1, .int .u64 d2, .string t, .slice A n cp] 27)) := (Below.refl _ _).alloc (Nat.le_refl _) _
  have hcall := hN e 0 p σ r _ _ hpk (hE.on (hal.mono (by omega))) hR (by omega) hp hB (h.below hok hal)
  have HC := Lib.hid hcall
  clear hcall hE hpk
  go_enter Tryd.func111, Tryd.ntmps111
  go_wp2_with fail
  refine HC.out.mono ?_
  rintro e' w1 ⟨⟨z, rfl, hz⟩, h1, h2⟩
  go_wp2
  go_ret
  exact ⟨rfl, h1, (Keeps.of_below hal).trans h2⟩
theorem does_ev {c : PC} (F : c.Fit) (W : WellG c.g) {e : Ex} {cs : List Value} {p n : Nat} {o : Option Nat} {w : World} (hE : ExIs w c.B e cs) (hR : RtW c.g e) (hn : nodes e <= c.lim) (hp : p <= c.s.data.toList.length) (hev : evJ c.g c.s.data.toList n (.ex e) p = some o) (h : PP c w) :
    Calls Tryd.prog 111 #[.pointer (some ⟨c.P, 0, none⟩), .agg cs.toArray, .int .i64 p] w fun e' w' => e' = .returned (.bool o.isSome) /\ PP c w' /\ Keeps c w w' := by
  obtain ⟨σ, h1, h2, h3⟩ := h
  obtain ⟨m, σ1, hpk, hag, _⟩ := (goes (hook := c.hk) (fits_of W.right) n).1 e p o hR.1 hp hev σ 0 h2
  refine (doesb_any F.ok (does F m).1 e p σ (o, σ1) cs w hpk hE hR hn hp h3 h1).mono ?_
  rintro e' w' ⟨rfl, q1, q2⟩
  exact ⟨rfl, ⟨σ1, q1, hag, (pk_bound _ _ _ _ _ _ _ _ _ hpk hp h3).2⟩, q2⟩
structure TB (c : PC) (w : World) (base tb : Nat) (r f : Int) (ts : List Tr) (V : Option Addr) (cp : Nat) (xs : List Value) (S : Nat -> Prop) : Prop where
  lo : c.base <= tb /\ tb < base /\ base <= w.heap.size
  box : Blk w tb 60 #[.int .i64 r, .int .i64 f, .int .i64 0, .slice V ts.length cp]
  own : w.ownsRow base 60 4 (.slice V ts.length cp) ts.length xs
  kids : KidsAre w S ts xs
  sep : ∀ b, S b -> some b ≠ (Value.slice V ts.length cp).ownBlock /\ base <= b /\ ∃ cs, Blk w b 60 cs
def TBx (c : PC) (w : World) (base tb : Nat) (r f : Int) (ts : List Tr) (own : Option Nat) : Prop := ∃ V cp xs S, own = (Value.slice V ts.length cp).ownBlock /\ TB c w base tb r f ts V cp xs S
structure Tk (c : PC) (tb : Nat) (r : Option Nat) (w w' : World) : Prop where
  os : w'.os = w.os
  tape : w'.tape = w.tape
  output : w'.output = w.output
  size : w.heap.size <= w'.heap.size
  blk : ∀ k, k < w.heap.size -> k ≠ c.P -> (k ≠ c.M /\ k ≠ c.ob) -> (k < c.base \/ ∀ cs fr, w.heap[k]? ≠ some (.cells cs 150 fr)) -> k ≠ tb -> some k ≠ r -> w'.heap[k]? = w.heap[k]?
section
variable {c : PC} {w w' w'' : World} {base tb : Nat} {r f : Int} {ts : List Tr} {own own' : Option Nat} {V : Option Addr} {cp : Nat} {xs : List Value} {S : Nat -> Prop}
theorem Tk.of_keeps (h : Keeps c w w') : Tk c tb own w w' := ⟨h.os, h.tape, h.output, h.size, fun k h1 h2 h3 h4 _ _ => h.blk k h1 h2 h3 h4⟩
theorem Tk.refl (c : PC) (tb : Nat) (own : Option Nat) (w : World) : Tk c tb own w w := Tk.of_keeps (Keeps.refl c w)
def Moved (w : World) (own own' : Option Nat) : Prop := own' = own \/ ∃ k, own' = some k /\ w.heap.size <= k
theorem Moved.refl (w : World) (own : Option Nat) : Moved w own own := .inl rfl
theorem Tk.trans (h : Tk c tb own w w') (h' : Tk c tb own' w' w'') (hm : Moved w own own') : Tk c tb own w w'' :=
  ⟨h'.os.trans h.os, h'.tape.trans h.tape, h'.output.trans h.output, Nat.le_trans h.size h'.size, fun k h1 h2 h3 h4 h5 h6 => by
    have e := h.blk k h1 h2 h3 h4 h5 h6
    rw [<- e]
    refine h'.blk k (Nat.lt_of_lt_of_le h1 h.size) h2 h3 ?_ h5 ?_
    · rcases h4 with h4 | h4
      · exact .inl h4
      · exact .inr (by rw [e]; exact h4)
    · rcases hm with rfl | ⟨q, rfl, hq⟩
      · exact h6
      · intro e; injection e with e; omega⟩
theorem Moved.trans {own'' : Option Nat} (h : Moved w own own') (h' : Moved w' own' own'') (hs : w.heap.size <= w'.heap.size) : Moved w own own'' := by
  rcases h' with rfl | ⟨q, rfl, hq⟩
  · exact h
  · exact .inr ⟨q, rfl, by omega⟩
theorem Tk.box {k : Nat} {T : TypeId} {cs : Array Value} (h : Tk c tb own w w') (hb : Blk w k T cs) (hT : T ≠ 150) (h1 : k ≠ c.P) (h2 : k ≠ c.M /\ k ≠ c.ob) (h3 : k ≠ tb) (h4 : some k ≠ own) : Blk w' k T cs :=
  (h.blk k hb.lt h1 h2 (.inr fun cs' fr e => by
    have hb' : w.heap[k]? = some (.cells cs T (0, 0)) := hb
    rw [hb'] at e
    injection e with e
    injection e with e1 e2 e3
    exact hT e2) h3 h4).trans hb
theorem Tk.below (h : Tk c tb own w w') {B : Nat} (hB : B <= w.heap.size) (h1 : B <= c.P) (h2 : B <= c.M /\ B <= c.ob) (h3 : B <= c.base) (h4 : B <= tb) (h5 : ∀ k, own = some k -> B <= k) : Below B w w' :=
  ⟨h.os, h.tape, h.output, h.size, fun k hk => h.blk k (by omega) (by omega) (by omega) (.inl (by omega)) (by omega) (fun e => by have := h5 k e.symm; omega)⟩
theorem TB.own_lt (h : TB c w base tb r f ts V cp xs S) : ∀ k, (Value.slice V ts.length cp).ownBlock = some k -> base <= k /\ k < w.heap.size := fun k hk => h.own.lt k hk
theorem TBx.own_lt (h : TBx c w base tb r f ts own) : ∀ k, own = some k -> base <= k /\ k < w.heap.size := by
  obtain ⟨V, cp, xs, S, rfl, h⟩ := h
  exact h.own_lt
theorem TBx.lo (h : TBx c w base tb r f ts own) : c.base <= tb /\ tb < base /\ base <= w.heap.size := by
  obtain ⟨V, cp, xs, S, rfl, h⟩ := h
  exact h.lo
theorem TBx.ne {k : Nat} {T : TypeId} {cs : Array Value} (h : TBx c w base tb r f ts own) (hb : Blk w k T cs) (hT : T ≠ 60) : k ≠ tb /\ some k ≠ own := by
  obtain ⟨V, cp, xs, S, rfl, h⟩ := h
  have hk : w.heap[k]? = some (.cells cs T (0, 0)) := hb
  constructor
  · rintro rfl
    have h2 : w.heap[k]? = some (.cells _ 60 (0, 0)) := h.box
    rw [hk] at h2
    injection h2 with h2
    injection h2 with e1 e2 e3
    exact hT e2
  · intro e
    rcases h.own.2 with ⟨h1, _⟩ | ⟨g, cap, cur, h1, hb', hgg, _⟩
    · rw [h1] at e; cases e
    · rw [h1] at e
      simp only [Value.ownBlock, Option.some.injEq] at e
      subst e
      rw [hk] at hgg
      injection hgg with hgg
      injection hgg with e1 e2 e3
      exact hT e2
theorem TB.keeps (h : TB c w base tb r f ts V cp xs S) (hok : c.Ok) (hk : Keeps c w w') : TB c w' base tb r f ts V cp xs S := by
  have hP := hok.P
  have hM := hok.M
  obtain ⟨l1, l2, l3⟩ := h.lo
  have hbx : ∀ b, c.base <= b -> ∀ cs, Blk w b 60 cs -> Blk w' b 60 cs := fun b hb cs hcs => hk.box hcs (by decide) (by omega) (by omega)
  have hheap : ∀ b, base <= b -> (∃ cs, Blk w b 60 cs) -> w'.heap[b]? = w.heap[b]? := fun b hb ⟨cs, hcs⟩ => (hbx b (by omega) cs hcs : w'.heap[b]? = _).trans (hcs : w.heap[b]? = _).symm
  refine ⟨⟨l1, l2, Nat.le_trans l3 hk.size⟩, hbx _ l1 _ h.box, own_heap h.own fun b hb => hheap b (h.own.lt b hb).1 ?_, h.kids.keep (fun _ h => h) (fun p hp => World.cell?_of_block (hheap _ (h.sep _ hp).2.1 (h.sep _ hp).2.2)), fun b hb => ?_⟩
  · rcases h.own.2 with ⟨h1, _⟩ | ⟨g, cap, cur, h1, hb', hgg, _⟩
    · rw [h1] at hb; cases hb
    · rw [h1] at hb
      simp only [Value.ownBlock, Option.some.injEq] at hb
      subst hb
      exact ⟨_, hgg⟩
  · obtain ⟨s1, s2, cs, s3⟩ := h.sep b hb
    exact ⟨s1, s2, cs, hbx b (by omega) cs s3⟩
theorem TBx.keeps (h : TBx c w base tb r f ts own) (hok : c.Ok) (hk : Keeps c w w') : TBx c w' base tb r f ts own := by
  obtain ⟨V, cp, xs, S, rfl, h⟩ := h
  exact ⟨V, cp, xs, S, rfl, h.keeps hok hk⟩
theorem TBx.below (h : TBx c w base tb r f ts own) (hok : c.Ok) (hb : Below w.heap.size w w') : TBx c w' base tb r f ts own := h.keeps hok (Keeps.of_below hb)
end
theorem tree_of_row {w : World} {S : Nat -> Prop} {base : Nat} {ks : List Tr} {A : Option Addr} {c : Nat} {kxs : List Value} (h1 : w.ownsRow base 60 4 (.slice A ks.length c) ks.length kxs) (h2 : KidsAre w S ks kxs) (r f a : Int) :
    TrIs w (fun b => S b \/ some b = (Value.slice A ks.length c).ownBlock) (.mk r f a ks) [.int .i64 r, .int .i64 f, .int .i64 a, .slice A ks.length c] := by
  have hb : 0 < ks.length -> ∃ ad : Addr, A = some ad /\ (S ad.block \/ some ad.block = (Value.slice A ks.length c).ownBlock) := by
    intro h0
    obtain ⟨g', c', hv', _, _⟩ := h1.form h0
    simp only [Value.slice.injEq] at hv'
    obtain ⟨rfl, -, -⟩ := hv'
    exact ⟨_, rfl, .inr rfl⟩
  have hcap : ks.length <= c /\ c <= maxLen := by
    rcases h1.2 with ⟨e, e2⟩ | ⟨g', c', cur, e, _, _, e1, e2, _⟩
    · simp only [Value.slice.injEq] at e
      rw [e.2.1, e.2.2]
      exact ⟨Nat.le_refl _, by unfold maxLen; omega⟩
    · simp only [Value.slice.injEq] at e
      rw [e.2.2]
      exact ⟨e1, e2⟩
  have hrow : ∀ i, i < ks.length -> ∃ c, (∀ t, ks[i]? = some t -> TrIs w S t c) /\ ∀ j u, c[j]? = some u -> kxs[i * 4 + j]? = some u := by
    intro i hi
    obtain ⟨c, hc1, hc2⟩ := h2.at_ i _ (List.getElem?_eq_getElem hi)
    exact ⟨c, fun t ht => by rw [List.getElem?_eq_getElem hi] at ht; injection ht with ht; rw [<- ht]; exact hc1, hc2⟩
  obtain ⟨q, hq⟩ := @tr_row (List Value) ⟨[]⟩ _ _ hrow
  refine .mk r f a ks A c q hcap.1 hcap.2 hb (fun i t ht => ((hq i (getElem?_lt ht)).1 t ht).keep (fun b h => .inl h) (fun _ _ => rfl)) (fun i t ad ht hA j u hu => ?_)
  obtain ⟨g', c', hv', _, _⟩ := h1.form (by have := getElem?_lt ht; omega)
  simp only [Value.slice.injEq] at hv'
  rw [hA] at hv'
  obtain ⟨e, -, -⟩ := hv'
  injection e with e
  subst e
  subst hA
  have := h1.cells (g := g') rfl (i * 4 + j) u ((hq i (getElem?_lt ht)).2 j u hu)
  rw [add_add']
  exact this
def TRuleQ (c : PC) (i p q : Nat) (ks : List Tr) (w : World) (e : Ending) (w' : World) : Prop := PP c w' /\ Keeps c w w' /\ ∃ V cp S, e = .returned (.agg #[.int .i64 i, .int .i64 p, .int .i64 q, .slice V ks.length cp]) /\
  TrIs w' S (.mk i p q ks) [.int .i64 i, .int .i64 p, .int .i64 q, .slice V ks.length cp] /\ ∀ b, S b -> w.heap.size <= b /\ ∃ cs, Blk w' b 60 cs
def TWalkQ (c : PC) (base tb : Nat) (r f : Int) (ts : List Tr) (own : Option Nat) (q : Nat) (w : World) (e : Ending) (w' : World) : Prop := e = .returned (.int .i64 q) /\ PP c w' /\ ∃ own' , TBx c w' base tb r f ts own' /\ Moved w own own' /\ Tk c tb own w w'
def BdOk (c : PC) (bb : Nat) (w : World) : Prop := c.base <= bb /\ Blk w bb 99 #[.pointer (some ⟨c.P, 0, none⟩)]
def DoesWalk (c : PC) (n : Nat) : Prop := ∀ (e : Ex) (p q : Nat) (cs : List Value) (bb base tb : Nat) (r f : Int) (ts : List Tr) (own : Option Nat) (w : World), evJ c.g c.s.data.toList n (.ex e) p = some (some q) -> ExIs w c.B e cs -> RtW c.g e -> nodes e <= c.lim -> p <= c.s.data.toList.length ->
  PP c w -> BdOk c bb w -> TBx c w base tb r f ts own -> ts.length + (trJ c.g c.s.data.toList n (.ex e) p).length <= 15000000 -> Calls Tryd.prog 84 #[.pointer (some ⟨bb, 0, none⟩), .agg cs.toArray, .int .i64 p, .pointer (some ⟨tb, 3, none⟩)] w (TWalkQ c base tb r f (ts ++ trJ c.g c.s.data.toList n (.ex e) p) own q w)
def DoesTRule (c : PC) (n : Nat) : Prop := ∀ (i p q : Nat) (r : Rl) (bb : Nat) (w : World), c.g[i]? = some r -> evJ c.g c.s.data.toList n (.ex r.2) p = some (some q) -> p <= c.s.data.toList.length -> PP c w -> BdOk c bb w ->
  Calls Tryd.prog 54 #[.pointer (some ⟨bb, 0, none⟩), .int .i64 i, .int .i64 p] w (TRuleQ c i p q (trJ c.g c.s.data.toList n (.ex r.2) p) w)
theorem BdOk.tk {c : PC} {bb base tb : Nat} {r f : Int} {ts : List Tr} {own : Option Nat} {w w' : World} (h : BdOk c bb w) (hok : c.Ok) (hT : TBx c w base tb r f ts own) (hk : Tk c tb own w w') : BdOk c bb w' := by
  have hne := hT.ne h.2 (by decide)
  have hP := hok.P
  have hM := hok.M
  have h1 := h.1
  exact ⟨h1, hk.box h.2 (by decide) (by omega) (by omega) hne.1 hne.2⟩
theorem BdOk.keeps {c : PC} {bb : Nat} {w w' : World} (h : BdOk c bb w) (hok : c.Ok) (hk : Keeps c w w') : BdOk c bb w' := by
  have hP := hok.P
  have hM := hok.M
  have h1 := h.1
  exact ⟨h1, hk.box h.2 (by decide) (by omega) (by omega)⟩
end Go.Proofs.YtndhbdbfjkmloaaDoor
namespace Go.Proofs.YtndhbdbfjkmloaaDoor
set_option maxRecDepth 100000
mutual
def hE : Ex -> Nat
  | .mk _ _ _ _ _ _ ks => 1 + hS ks
def hS : List Ex -> Nat
  | [] => 0
  | e :: es => max (hE e) (hS es)
end
theorem hS_mem : ∀ {ks : List Ex} {e : Ex}, e ∈ ks -> hE e <= hS ks
  | [], e, h => by cases h
  | x :: xs, e, h => by
    rw [hS]
    rcases List.mem_cons.1 h with rfl | h
    · exact Nat.le_max_left _ _
    · exact Nat.le_trans (hS_mem h) (Nat.le_max_right _ _)
theorem hS_le {N : Nat} : ∀ {ks : List Ex}, (∀ e ∈ ks, hE e <= N) -> hS ks <= N
  | [], _ => Nat.zero_le _
  | e :: es, h => by
    rw [hS]
    exact Nat.max_le.2 ⟨h e (by simp), hS_le fun x hx => h x (by simp [hx])⟩
theorem looks_deep {m : Nat} : ∀ (ks : List Ex) (n : Nat), (looks ks n m).1 = 0 -> ∀ e ∈ ks, ∃ n', (lookN e n' m).1 = 0
  | [], _, _ => fun e he => by cases he
  | e :: es, n, h => fun e' he' => by
    unfold looks at h
    split at h
    · rename_i h0
      rcases List.mem_cons.1 he' with rfl | he'
      · exact ⟨_, h0⟩
      · exact looks_deep es _ h e' he'
    · rename_i h0
      exact absurd h h0
theorem look_deep (e : Ex) : ∀ n m, (lookN e n m).1 = 0 -> m + hE e <= 13 := by
  refine Ex.ind (P := fun e => ∀ n m, (lookN e n m).1 = 0 -> m + hE e <= 13) ?_ e
  intro k a b c d t ks ih n m h
  unfold lookN at h
  split at h
  · simp at h
  split at h
  · simp at h
  rename_i h12
  split at h
  · simp at h
  · have hk := looks_deep ks _ h
    have : hS ks <= 12 - m := hS_le fun e he => by
      obtain ⟨n', hn⟩ := hk e he
      have := ih e he n' (m + 1) hn
      omega
    rw [hE]
    omega
theorem check_deep {e : Ex} (h : checkE e = 0) : hE e <= 12 := by
  have := look_deep e 0 1 h
  omega
def trM (e : Ex) : Nat := 2 ^ hE e * nodes e
section
variable {g : List Rl} {s : List UInt8} {fs : List Fa}
theorem mul3 {a b c d e f : Nat} (h1 : a <= d) (h2 : b <= e) (h3 : c <= f) : a * b * c <= d * e * f := Nat.mul_le_mul (Nat.mul_le_mul h1 h2) h3
structure TrLen (g : List Rl) (s : List UInt8) (fs : List Fa) (n : Nat) : Prop where
  ex : ∀ e p q, GoodE g fs e -> p <= s.length -> evJ g s n (.ex e) p = some (some q) -> (trJ g s n (.ex e) p).length <= trM e * (q - p + 1)
  seq : ∀ es p q X, (∀ e ∈ es, GoodE g fs e /\ 2 ^ hE e <= X) -> p <= s.length -> evJ g s n (.seq es) p = some (some q) -> (trJ g s n (.seq es) p).length <= X * nodesAll es * (q - p + 1)
  alt : ∀ es p q X, (∀ e ∈ es, GoodE g fs e /\ 2 ^ hE e <= X) -> p <= s.length -> evJ g s n (.alt es) p = some (some q) -> (trJ g s n (.alt es) p).length <= X * nodesAll es * (q - p + 1)
  rep : ∀ e p q, GoodE g fs e -> (ofE g fs e).e = false -> p <= s.length -> evJ g s n (.rep e) p = some (some q) -> (trJ g s n (.rep e) p).length <= trM e * (2 * (q - p))
  kid : ∀ k e p q, GoodE g fs e -> (k = 7 \/ k = 8 -> (ofE g fs e).e = false) -> 7 <= k -> p <= s.length -> evJ g s n (.kid k e) p = some (some q) -> (trJ g s n (.kid k e) p).length <= trM e * (2 * (q - p + 1))
theorem trLen (H : Fits g fs) : ∀ n, TrLen g s fs n := by
  intro n
  induction n with
  | zero => exact ⟨fun _ _ _ _ _ h => (by cases h), fun _ _ _ _ _ _ h => (by cases h), fun _ _ _ _ _ _ h => (by cases h), fun _ _ _ _ _ _ h => (by cases h), fun _ _ _ _ _ _ _ _ h => (by cases h)⟩
  | succ n ih =>
    have htl : ∀ e p q, GoodE g fs e -> p <= s.length -> evJ g s n (.ex e) p = some (some q) -> p <= q /\ q <= s.length /\ ((ofE g fs e).e = false -> p < q) := fun e p q h1 h2 h3 => by
      have ht := (told H n).1 e p _ h1.rt h2 h3
      refine ⟨ht.1, ht.2.1, fun hne => ?_⟩
      rcases Nat.lt_or_ge p q with h | h
      · exact h
      · have := ht.2.2.1 (by have := ht.1; omega)
        rw [hne] at this
        cases this
    have hle : ∀ j p q, evJ g s n j p = some (some q) -> p <= q := fun j p q h => (nests n j p q h).le
    refine ⟨?_, ?_, ?_, ?_, ?_⟩
    · rintro ⟨k, a, b, c, d, t, ks⟩ p q hg hp h
      obtain ⟨hkids, hfit, hname, hloop⟩ := hg.kids
      have hfc := fit_cases hfit
      have hpq := (nests (n + 1) _ p q h).le
      rw [evJ.eq_def] at h
      rw [trJ.eq_def]
      dsimp only at h ⊢
      have hX : ∀ e ∈ ks, GoodE g fs e /\ 2 ^ hE e <= 2 ^ hS ks := fun e he => ⟨hkids e he, Nat.pow_le_pow_right (by omega) (hS_mem he)⟩
      have hM : trM (.mk k a b c d t ks) = 2 ^ (1 + hS ks) * (1 + nodesAll ks) := by unfold trM; rw [hE, nodes]
      have hM2 : 2 ^ hS ks * nodesAll ks * (q - p + 1) <= trM (.mk k a b c d t ks) * (q - p + 1) := by
        rw [hM]
        exact mul3 (Nat.pow_le_pow_right (by omega) (by omega)) (by omega) (Nat.le_refl _)
      by_cases h1 : k = 1 \/ k = 2 \/ k = 3
      · rw [if_pos h1]; exact Nat.zero_le _
      rw [if_neg h1]
      rw [if_neg (by omega), if_neg (by omega), if_neg (by omega)] at h
      by_cases h4 : k = 4
      · rw [if_pos h4] at h ⊢
        obtain ⟨r, hr, _⟩ := fnd_at (hname h4)
        rw [hr] at h ⊢
        dsimp only at h ⊢
        rw [h]
        have h1 : 0 < trM (.mk k a b c d t ks) := by rw [hM]; exact Nat.mul_pos (Nat.pow_pos (by omega)) (by omega)
        exact Nat.mul_pos h1 (by omega)
      rw [if_neg h4] at h ⊢
      by_cases h5 : k = 5
      · rw [if_pos h5] at h ⊢
        exact Nat.le_trans (ih.seq ks p q _ hX hp h) hM2
      rw [if_neg h5] at h ⊢
      by_cases h6 : k = 6
      · rw [if_pos h6] at h ⊢
        exact Nat.le_trans (ih.alt ks p q _ hX hp h) hM2
      rw [if_neg h6] at h ⊢
      match ks, show ks.length = 1 by omega with
      | [e], _ =>
      dsimp only at h ⊢
      have hge := hkids e (by simp)
      have hMe : 2 * trM e <= trM (.mk k a b c d t [e]) := by
        rw [hM]
        unfold trM
        rw [hS, hS, nodesAll, nodesAll, Nat.max_eq_left (Nat.zero_le _), Nat.add_comm 1 (hE e), Nat.pow_succ, <- Nat.mul_assoc, Nat.mul_comm 2]
        exact Nat.mul_le_mul_left _ (by omega)
      have hbig : ∀ m, m <= trM e * (2 * (q - p + 1)) -> m <= trM (.mk k a b c d t [e]) * (q - p + 1) := fun m hm => Nat.le_trans hm (by
        rw [<- Nat.mul_assoc, Nat.mul_comm (trM e) 2]
        exact Nat.mul_le_mul_right _ hMe)
      refine Nat.le_trans (ih.kid k e p q hge (fun hk => hloop hk e rfl) (by omega) hp h) ?_
      rw [<- Nat.mul_assoc, Nat.mul_comm (trM e) 2]
      exact Nat.mul_le_mul_right _ hMe
    · rintro es p q X hX hp h
      cases es with
      | nil =>
        rw [trJ.eq_def]
        exact Nat.zero_le _
      | cons e es =>
        rw [evJ.eq_def] at h
        rw [trJ.eq_def]
        dsimp only at h ⊢
        cases he : evJ g s n (.ex e) p with
        | none => rw [he] at h; cases h
        | some u =>
          rw [he] at h
          cases u with
          | none => cases h
          | some tq =>
            dsimp only at h ⊢
            obtain ⟨hge, hXe⟩ := hX e (by simp)
            have h1 := htl e p tq hge hp he
            have h2 := hle _ _ _ h
            have l1 := ih.ex e p tq hge hp he
            have l2 := ih.seq es tq q X (fun x hx => hX x (by simp [hx])) h1.2.1 h
            rw [List.length_append, nodesAll, Nat.mul_add X, Nat.add_mul]
            unfold trM at l1
            exact Nat.add_le_add (Nat.le_trans l1 (mul3 hXe (Nat.le_refl _) (by omega))) (Nat.le_trans l2 (Nat.mul_le_mul_left _ (by omega)))
    · rintro es p q X hX hp h
      cases es with
      | nil =>
        rw [trJ.eq_def]
        exact Nat.zero_le _
      | cons e es =>
        rw [evJ.eq_def] at h
        rw [trJ.eq_def]
        dsimp only at h ⊢
        cases he : evJ g s n (.ex e) p with
        | none => rw [he] at h; cases h
        | some u =>
          rw [he] at h
          obtain ⟨hge, hXe⟩ := hX e (by simp)
          rw [nodesAll, Nat.mul_add X, Nat.add_mul]
          cases u with
          | none =>
            dsimp only at h ⊢
            exact Nat.le_trans (ih.alt es p q X (fun x hx => hX x (by simp [hx])) hp h) (Nat.le_add_left _ _)
          | some tq =>
            dsimp only at h ⊢
            injection h with h
            injection h with h
            subst h
            have l1 := ih.ex e p tq hge hp he
            unfold trM at l1
            exact Nat.le_trans (Nat.le_trans l1 (mul3 hXe (Nat.le_refl _) (Nat.le_refl _))) (Nat.le_add_right _ _)
    · rintro e p q hge hne hp h
      rw [evJ.eq_def] at h
      rw [trJ.eq_def]
      dsimp only at h ⊢
      cases he : evJ g s n (.ex e) p with
      | none => rw [he] at h; cases h
      | some u =>
        rw [he] at h
        cases u with
        | none => exact Nat.zero_le _
        | some tq =>
          dsimp only at h ⊢
          have h1 := htl e p tq hge hp he
          have h2 := hle _ _ _ h
          have h3 := h1.2.2 hne
          have l1 := ih.ex e p tq hge hp he
          have l2 := ih.rep e tq q hge hne h1.2.1 h
          rw [List.length_append]
          refine Nat.le_trans (Nat.add_le_add l1 l2) ?_
          rw [<- Nat.mul_add]
          exact Nat.mul_le_mul_left _ (by omega)
    · rintro k e p q hge hne h7 hp h
      rw [evJ.eq_def] at h
      rw [trJ.eq_def]
      dsimp only at h ⊢
      by_cases k7 : k = 7
      · rw [if_pos k7] at h ⊢
        exact Nat.le_trans (ih.rep e p q hge (hne (.inl k7)) hp h) (Nat.mul_le_mul_left _ (by omega))
      rw [if_neg k7] at h ⊢
      cases he : evJ g s n (.ex e) p with
      | none => rw [he] at h; cases h
      | some u =>
        rw [he] at h
        cases u with
        | none =>
          dsimp only
          have : (if k = 8 then ([] : List Tr) else if k = 9 then [] else []) = [] := by simp
          rw [this]
          exact Nat.zero_le _
        | some tq =>
          dsimp only at h ⊢
          have h1 := htl e p tq hge hp he
          have l1 := ih.ex e p tq hge hp he
          by_cases k8 : k = 8
          · rw [if_pos k8] at h ⊢
            have h2 := hle _ _ _ h
            have h3 := h1.2.2 (hne (.inr k8))
            have l2 := ih.rep e tq q hge (hne (.inr k8)) h1.2.1 h
            rw [List.length_append]
            refine Nat.le_trans (Nat.add_le_add l1 l2) ?_
            rw [<- Nat.mul_add]
            exact Nat.mul_le_mul_left _ (by omega)
          rw [if_neg k8] at h ⊢
          by_cases k9 : k = 9
          · rw [if_pos k9] at h ⊢
            injection h with h
            injection h with h
            subst h
            exact Nat.le_trans l1 (Nat.mul_le_mul_left _ (by omega))
          · rw [if_neg k9]
            exact Nat.zero_le _
theorem tr_few (W : WellG g) (h60 : s.length <= 60) {r : Rl} (hr : r ∈ g) {n p q : Nat} (hp : p <= s.length) (h : evJ g s n (.ex r.2) p = some (some q)) : (trJ g s n (.ex r.2) p).length <= 15000000 := by
  have H := fits_of W.right
  have hR := W.right.rt r hr
  have h1 := (trLen (s := s) H n).ex r.2 p q ⟨hR, W.noloop r hr⟩ hp h
  have ht := (told H n).1 r.2 p _ hR hp h
  have h2 : trM r.2 <= 2 ^ 12 * 60 := Nat.mul_le_mul (Nat.pow_le_pow_right (by omega) (check_deep (W.right.body r hr))) (nodes_le (W.right.body r hr))
  have h3 := ht.2.1
  have h4 : trM r.2 * (q - p + 1) <= 2 ^ 12 * 60 * 61 := Nat.mul_le_mul h2 (by omega)
  omega
end
end Go.Proofs.YtndhbdbfjkmloaaDoor
