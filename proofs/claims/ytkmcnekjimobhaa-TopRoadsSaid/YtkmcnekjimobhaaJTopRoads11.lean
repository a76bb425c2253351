/- strings.HasPrefix; how much of a literal stands at a place. What is missed: plain. What code.Make writes, and what the machine does with it: plain. The writer of code.Make: here; what is written plainly. -/
import Derived.Test.YtkmcnekjimobhaaJTopRoads10
import Derived.Lib.Strings
import Derived.Test.YtkmcnekjimobhaaJTopRoads0
import Derived.Test.YtkmcnekjimobhaaJTopRoads3
import Derived.Test.YtkmcnekjimobhaaJTopRoads7
import Derived.Test.YtkmcnekjimobhaaJTopRoads2
namespace Go.Proofs.Ytkmcnekjimobhaa
set_option maxRecDepth 100000
open Go.RowKit Go.Maps
theorem hasPrefix0_any (s p : ByteArray) (w : World) : Calls Try.prog 114 #[.string s, .string p] w fun e w' => e = .returned (.bool (p.data.toList.isPrefixOf s.data.toList)) /\ Below w.heap.size w w' := by
  have HX : Hid ((decide (p.data.toList.length <= s.data.toList.length) && (s.data.toList.take p.data.toList.length == p.data.toList)) = p.data.toList.isPrefixOf s.data.toList) := Lib.hasPrefix_of_take _ _
  generalize p.data.toList.isPrefixOf s.data.toList = r at HX
  have HL := Lib.hid (size_list s)
  have HP := Lib.hid (size_list p)
  by_cases h : p.size <= s.size
  · have HY : Hid (((s.extract 0 p.size).toList == p.toList) = r) := by
      show _ = _
      rw [<- HX.out, Lib.extract_toList, ByteArray.toList_eq, List.drop_zero, HL.out, HP.out, decide_eq_true h, Bool.true_and, Nat.sub_zero]
    clear HX
    go_enter Try.func114, Try.ntmps114
    go_wp2
    go_ret
    exact ⟨ret_bool HY.out, bl⟩
  · have HY : Hid (r = false) := by
      show _ = _
      rw [<- HX.out, HL.out, HP.out, decide_eq_false h, Bool.false_and]
    clear HX
    go_enter Try.func114, Try.ntmps114
    go_wp2
    go_ret
    exact ⟨ret_bool HY.out.symm, bl⟩
theorem hasPrefix_any (s p : ByteArray) (w : World) : Calls Try.prog 89 #[.string s, .string p] w fun e w' => e = .returned (.bool (p.data.toList.isPrefixOf s.data.toList)) /\ Below w.heap.size w w' := by
  have hc := hasPrefix0_any s p
  generalize p.data.toList.isPrefixOf s.data.toList = r at hc ⊢
  have HC := Lib.hid hc
  clear hc
  go_enter Try.func89, Try.ntmps89
  go_wp2_with fail
  refine (HC.out _).mono ?_
  rintro e w1 ⟨rfl, hb⟩
  go_wp2
  go_ret
  exact ⟨rfl, hb⟩
section
variable (s : List UInt8) (p : Nat) (t : List UInt8)
theorem alike_spec : ∀ (f k : Nat), k + f = t.length -> (∀ j, j < k -> p + j < s.length /\ bt s (p + j) = bt t j) -> litAt s p t = false ->
    alike s p t f k < t.length /\ k <= alike s p t f k /\ p + alike s p t f k <= max (p + k) s.length := by
  intro f
  induction f with
  | zero =>
    intro k hk hs hl
    exfalso
    have hk : k = t.length := by omega
    have : litAt s p t = true := by
      unfold litAt
      rw [List.isPrefixOf_iff_prefix, List.prefix_iff_eq_take]
      apply List.ext_getElem?
      intro j
      rw [List.getElem?_take]
      split
      · rename_i hj
        obtain ⟨h1, h2⟩ := hs j (by omega)
        rw [List.getElem?_drop, List.getElem?_eq_getElem h1, List.getElem?_eq_getElem hj]
        unfold bt at h2
        rw [List.getD_eq_getElem?_getD, List.getD_eq_getElem?_getD, List.getElem?_eq_getElem h1, List.getElem?_eq_getElem hj] at h2
        simp only [Option.getD_some] at h2
        rw [UInt8.toNat.inj h2]
      · rw [List.getElem?_eq_none (by omega)]
    rw [this] at hl
    cases hl
  | succ f ih =>
    intro k hk hs hl
    unfold alike
    split
    · rename_i h
      obtain ⟨a, b, c⟩ := ih (k + 1) (by omega) (fun j hj => by
        by_cases hjk : j < k
        · exact hs j hjk
        · obtain rfl : j = k := by omega
          exact h) hl
      exact ⟨a, by omega, by omega⟩
    · exact ⟨by omega, Nat.le_refl _, by omega⟩
theorem matchN_lt (h : litAt s p t = false) (hp : p <= s.length) : matchN s p t < t.length /\ p + matchN s p t <= s.length := by
  obtain ⟨a, _, c⟩ := alike_spec s p t t.length 0 (by omega) (fun j h => by omega) h
  exact ⟨a, by unfold matchN; omega⟩
end
theorem pk_ge (g : List Rl) (s : List UInt8) (hook : Bool) : ∀ m j p σ o σ1, pk g s hook m j p σ = some (o, σ1) -> ∀ tq, o = some tq -> p <= tq := by
  intro m
  induction m with
  | zero => intro j p σ o σ1 h; cases h
  | succ m ih =>
    intro j p σ o σ1 h tq ht
    cases j with
    | try_ e n =>
      simp only [pk] at h
      cases he : pk g s hook m (.node e n) p σ with
      | none => rw [he] at h; cases h
      | some x =>
        obtain ⟨o', σ'⟩ := x
        rw [he] at h
        simp only [Option.some.injEq, Prod.mk.injEq] at h
        obtain ⟨rfl, rfl⟩ := h
        exact ih _ _ _ _ _ he tq ht
    | rule i =>
      simp only [pk] at h
      cases hs : recall σ.seen (i, p) with
      | some o' =>
        rw [hs] at h
        simp only [Option.some.injEq, Prod.mk.injEq] at h
        obtain ⟨rfl, rfl⟩ := h
        cases o' with
        | none => cases ht
        | some k => simp only [Option.map_some, Option.some.injEq] at ht; omega
      | none =>
        rw [hs] at h
        simp only at h
        cases hg : g[i]? with
        | none => rw [hg] at h; cases h
        | some r =>
          rw [hg] at h
          simp only at h
          cases he : pk g s hook m (.try_ r.2 (firstN g i)) p σ with
          | none => rw [he] at h; cases h
          | some x =>
            obtain ⟨o', σ'⟩ := x
            rw [he] at h
            simp only at h
            split at h
            · cases h
            · simp only [Option.some.injEq, Prod.mk.injEq] at h
              obtain ⟨rfl, _⟩ := h
              exact ih _ _ _ _ _ he tq ht
    | seq es n =>
      cases es with
      | nil => simp only [pk, Option.some.injEq, Prod.mk.injEq] at h; obtain ⟨rfl, _⟩ := h; injection ht with ht; omega
      | cons e es =>
        simp only [pk] at h
        cases he : pk g s hook m (.try_ e n) p σ with
        | none => rw [he] at h; cases h
        | some x =>
          obtain ⟨o', σ'⟩ := x
          rw [he] at h
          cases o' with
          | none => simp only [Option.some.injEq, Prod.mk.injEq] at h; obtain ⟨rfl, _⟩ := h; cases ht
          | some q => exact Nat.le_trans (ih _ _ _ _ _ he q rfl) (ih _ _ _ _ _ h tq ht)
    | alt es n =>
      cases es with
      | nil => simp only [pk, Option.some.injEq, Prod.mk.injEq] at h; obtain ⟨rfl, _⟩ := h; cases ht
      | cons e es =>
        simp only [pk] at h
        cases he : pk g s hook m (.try_ e n) p σ with
        | none => rw [he] at h; cases h
        | some x =>
          obtain ⟨o', σ'⟩ := x
          rw [he] at h
          cases o' with
          | none => exact ih _ _ _ _ _ h tq ht
          | some q =>
            simp only [Option.some.injEq, Prod.mk.injEq] at h
            obtain ⟨rfl, _⟩ := h
            exact ih _ _ _ _ _ he tq ht
    | rep e n =>
      simp only [pk] at h
      cases he : pk g s hook m (.try_ e n) p σ with
      | none => rw [he] at h; cases h
      | some x =>
        obtain ⟨o', σ'⟩ := x
        rw [he] at h
        cases o' with
        | none => simp only [Option.some.injEq, Prod.mk.injEq] at h; obtain ⟨rfl, _⟩ := h; injection ht with ht; omega
        | some q => exact Nat.le_trans (ih _ _ _ _ _ he q rfl) (ih _ _ _ _ _ h tq ht)
    | node e n =>
      obtain ⟨k, a, b, c, d, t, ks⟩ := e
      rw [pk_node] at h
      split at h
      · simp only [Option.some.injEq, Prod.mk.injEq] at h; obtain ⟨rfl, _⟩ := h; injection ht with ht; omega
      split at h
      · split at h
        · simp only [Option.some.injEq, Prod.mk.injEq] at h; obtain ⟨rfl, _⟩ := h; injection ht with ht; omega
        · simp only [Option.some.injEq, Prod.mk.injEq] at h; obtain ⟨rfl, _⟩ := h; cases ht
      split at h
      · split at h
        · simp only [Option.some.injEq, Prod.mk.injEq] at h; obtain ⟨rfl, _⟩ := h; injection ht with ht; omega
        · simp only [Option.some.injEq, Prod.mk.injEq] at h; obtain ⟨rfl, _⟩ := h; cases ht
      split at h
      · exact ih _ _ _ _ _ h tq ht
      split at h
      · exact ih _ _ _ _ _ h tq ht
      split at h
      · exact ih _ _ _ _ _ h tq ht
      split at h
      · cases h
      · exact ih _ _ _ _ _ h tq ht
    | one k e n =>
      simp only [pk] at h
      cases he : pk g s hook m (.try_ e (n + 1)) p σ with
      | none => rw [he] at h; cases h
      | some x =>
        obtain ⟨o', σ'⟩ := x
        rw [he] at h
        cases o' with
        | none =>
          simp only [Option.some.injEq, Prod.mk.injEq] at h; obtain ⟨rfl, _⟩ := h
          split at ht
          · cases ht
          · injection ht with ht; omega
        | some q =>
          have hq := ih _ _ _ _ _ he q rfl
          simp only at h
          split at h
          · simp only [Option.some.injEq, Prod.mk.injEq] at h; obtain ⟨rfl, _⟩ := h; injection ht with ht; omega
          split at h
          · simp only [Option.some.injEq, Prod.mk.injEq] at h; obtain ⟨rfl, _⟩ := h; cases ht
          split at h
          · simp only [Option.some.injEq, Prod.mk.injEq] at h; obtain ⟨rfl, _⟩ := h; injection ht with ht; omega
          exact Nat.le_trans hq (ih _ _ _ _ _ h tq ht)
end Go.Proofs.Ytkmcnekjimobhaa
namespace Go.Proofs.Ytkmcnekjimobhaa
set_option maxRecDepth 100000
open Go.RowKit
theorem rangeL_in (lo : Nat) : ∀ n, lo + n <= 256 -> ∀ j, j < 256 -> hasN (rangeL lo n) j = decide (lo <= j /\ j < lo + n)
  | 0, _, j, _ => by
    have : ¬ (lo <= j /\ j < lo + 0) := by omega
    rw [decide_eq_false this]
    unfold hasN rangeL
    rcases (by omega : j / 64 = 0 \/ j / 64 = 1 \/ j / 64 = 2 \/ 3 <= j / 64) with h | h | h | h
    · rw [h]; simp
    · rw [h]; simp
    · rw [h]; simp
    · obtain ⟨m, hm⟩ : ∃ m, j / 64 = m + 3 := ⟨j / 64 - 3, by omega⟩
      rw [hm]
      cases m <;> simp
  | n + 1, h, j, hj => by
    have ih := rangeL_in lo n (by omega) j hj
    have hl := rangeL_len lo n
    unfold hasN at ih ⊢
    rw [rangeL, List.getD_eq_getElem?_getD, List.getElem?_set]
    split
    · rename_i he
      rw [if_pos (by omega)]
      simp only [Option.getD_some]
      rw [Nat.testBit_or, he, ih, Nat.testBit_two_pow]
      have e1 : ((lo + n) % 64 = j % 64) ↔ lo + n = j := by omega
      rw [Bool.eq_iff_iff]
      simp only [Bool.or_eq_true, decide_eq_true_iff, e1]
      omega
    · rename_i he
      rw [<- List.getD_eq_getElem?_getD, ih, Bool.eq_iff_iff]
      simp only [decide_eq_true_iff]
      constructor
      · intro h1; omega
      · intro h1
        refine ⟨h1.1, ?_⟩
        rcases Nat.eq_or_lt_of_le (show j + 1 <= lo + (n + 1) from h1.2) with e | e
        · exfalso
          apply he
          rw [show lo + n = j from by omega]
        · omega
def PJob.all (P : Ex -> Prop) : PJob -> Prop
  | .node e _ => P e
  | .try_ e _ => P e
  | .rule _ => True
  | .seq es _ => ∀ e ∈ es, P e
  | .alt es _ => ∀ e ∈ es, P e
  | .rep e _ => P e
  | .one _ e _ => P e
end Go.Proofs.Ytkmcnekjimobhaa
namespace Go.Proofs.Ytkmcnekjimobhaa
set_option maxRecDepth 100000
def iN (op n : Int) : In := ⟨op, n, 0, 0, 0, 0⟩
def litI (c : UInt8) : In := ⟨1, 0, (rangeL c.toNat 1).getD 0 0, (rangeL c.toNat 1).getD 1 0, (rangeL c.toNat 1).getD 2 0, (rangeL c.toNat 1).getD 3 0⟩
mutual
def lE : Ex -> Nat
  | .mk k _ _ _ _ t ks => if k = 2 then 1 else if k = 3 then t.size else if k = 4 then 1 else if k = 5 then lS ks else if k = 6 then lA ks else lK ks k
def lS : List Ex -> Nat
  | [] => 0
  | e :: es => lE e + lS es
def lA : List Ex -> Nat
  | [] => 0
  | e :: es => if es.isEmpty then lE e else 2 + lE e + lA es
def lK : List Ex -> Int -> Nat
  | [], _ => 0
  | e :: _, k => if k = 7 then lE e + 2 else if k = 8 then lE e + (lE e + 2) else if k = 9 then lE e + 2 else if k = 10 then lE e + 3 else if k = 11 then lE e + 2 else 0
end
def starI (xs : List In) (p : Nat) : List In := iN 3 ((p + 2 + xs.length : Nat) : Int) :: (xs ++ [iN 9 ((p + 1 : Nat) : Int)])
mutual
def cE (g : List Rl) (ad : Nat -> Nat) : Ex -> Nat -> List In
  | .mk k a b c d t ks, p => if k = 2 then [⟨1, 0, a.toNat, b.toNat, c.toNat, d.toNat⟩] else if k = 3 then t.data.toList.map litI else if k = 4 then [iN 5 ((ad (fnd g t.data.toList).toNat : Nat) : Int)]
    else if k = 5 then cS g ad ks p else if k = 6 then cA g ad ks p (p + lA ks) else cK g ad ks k p
def cS (g : List Rl) (ad : Nat -> Nat) : List Ex -> Nat -> List In
  | [], _ => []
  | e :: es, p => cE g ad e p ++ cS g ad es (p + lE e)
def cA (g : List Rl) (ad : Nat -> Nat) : List Ex -> Nat -> Nat -> List In
  | [], _, _ => []
  | e :: es, p, fin => if es.isEmpty then cE g ad e p else iN 3 ((p + 2 + lE e : Nat) : Int) :: (cE g ad e (p + 1) ++ (iN 4 (fin : Nat) :: cA g ad es (p + 2 + lE e) fin))
def cK (g : List Rl) (ad : Nat -> Nat) : List Ex -> Int -> Nat -> List In
  | [], _, _ => []
  | e :: _, k, p => if k = 7 then starI (cE g ad e (p + 1)) p else if k = 8 then cE g ad e p ++ starI (cE g ad e (p + lE e + 1)) (p + lE e)
    else if k = 9 then iN 3 ((p + 2 + lE e : Nat) : Int) :: (cE g ad e (p + 1) ++ [iN 4 ((p + 2 + lE e : Nat) : Int)])
    else if k = 10 then iN 3 ((p + 2 + lE e : Nat) : Int) :: (cE g ad e (p + 1) ++ [iN 10 ((p + 3 + lE e : Nat) : Int), iN 7 0])
    else if k = 11 then iN 3 ((p + 2 + lE e : Nat) : Int) :: (cE g ad e (p + 1) ++ [iN 11 0]) else []
end
section
variable {g : List Rl} {ad : Nat -> Nat}
theorem cS_len : ∀ (ks : List Ex) (p : Nat), (∀ e ∈ ks, ∀ p, (cE g ad e p).length = lE e) -> (cS g ad ks p).length = lS ks
  | [], _, _ => rfl
  | e :: es, p, h => by
    rw [cS, lS, List.length_append, h e (by simp), cS_len es _ fun x hx => h x (by simp [hx])]
theorem cA_len : ∀ (ks : List Ex) (p fin : Nat), (∀ e ∈ ks, ∀ p, (cE g ad e p).length = lE e) -> (cA g ad ks p fin).length = lA ks
  | [], _, _, _ => rfl
  | e :: es, p, fin, h => by
    have ih := cA_len es (p + 2 + lE e) fin fun x hx => h x (by simp [hx])
    have he := h e (by simp)
    rw [cA, lA]
    split
    · exact he _
    · simp only [List.length_cons, List.length_append, he, ih]
      omega
theorem cE_len (e : Ex) : ∀ p, (cE g ad e p).length = lE e := by
  refine Ex.ind (P := fun e => ∀ p, (cE g ad e p).length = lE e) ?_ e
  intro k a b c d t ks ih p
  rw [cE, lE]
  by_cases h2 : k = 2
  · rw [if_pos h2, if_pos h2]; rfl
  rw [if_neg h2, if_neg h2]
  by_cases h3 : k = 3
  · rw [if_pos h3, if_pos h3, List.length_map]; exact Array.length_toList
  rw [if_neg h3, if_neg h3]
  by_cases h4 : k = 4
  · rw [if_pos h4, if_pos h4]; rfl
  rw [if_neg h4, if_neg h4]
  by_cases h5 : k = 5
  · rw [if_pos h5, if_pos h5]; exact cS_len ks p ih
  rw [if_neg h5, if_neg h5]
  by_cases h6 : k = 6
  · rw [if_pos h6, if_pos h6]; exact cA_len ks p _ ih
  rw [if_neg h6, if_neg h6]
  cases ks with
  | nil => rw [cK, lK]; rfl
  | cons e es =>
    have he := ih e (by simp)
    rw [cK, lK]
    unfold starI
    split
    · simp [he]
    split
    · simp [he]
    split
    · simp [he]
    split
    · simp [he]
    split
    · simp [he]
    · rfl
end
def Seg (l : List In) (p : Nat) (xs : List In) : Prop := ∀ i x, xs[i]? = some x -> l[p + i]? = some x
theorem Seg.app {l : List In} {p : Nat} {xs ys : List In} (h : Seg l p (xs ++ ys)) : Seg l p xs /\ Seg l (p + xs.length) ys := by
  refine ⟨fun i x hx => h i x (by rw [List.getElem?_append_left (getElem?_lt hx)]; exact hx), fun i x hx => ?_⟩
  have := h (xs.length + i) x (by rw [List.getElem?_append_right (by omega), Nat.add_sub_cancel_left]; exact hx)
  rw [Nat.add_assoc]
  exact this
theorem Seg.cons {l : List In} {p : Nat} {x : In} {xs : List In} (h : Seg l p (x :: xs)) : l[p]? = some x /\ Seg l (p + 1) xs := by
  refine ⟨h 0 x rfl, fun i y hy => ?_⟩
  rw [Nat.add_right_comm]
  exact h (i + 1) y (by simpa using hy)
def resM (l : List In) (s : List UInt8) (k : Nat) : Except Int MS -> Bool × Nat × Int
  | .ok m => runM l s k m
  | .error z => (false, 0, z)
def Mgo (l : List In) (s : List UInt8) (K : Nat) (m : MS) (r : Except Int MS) : Prop := ∃ k, k <= K /\ ∀ j, runM l s (k + j) m = resM l s j r
section
variable {l : List In} {s : List UInt8} {K K1 K2 : Nat} {m m1 : MS} {r : Except Int MS}
theorem Mgo.more (h : Mgo l s K m r) (hK : K <= K1) : Mgo l s K1 m r := by
  obtain ⟨k, h1, h2⟩ := h
  exact ⟨k, by omega, h2⟩
theorem Mgo.here : Mgo l s 0 m (.ok m) := ⟨0, Nat.le_refl _, fun j => by rw [Nat.zero_add]; rfl⟩
theorem Mgo.trans (h1 : Mgo l s K1 m (.ok m1)) (h2 : Mgo l s K2 m1 r) : Mgo l s (K1 + K2) m r := by
  obtain ⟨a, ha, fa⟩ := h1
  obtain ⟨b, hb, fb⟩ := h2
  exact ⟨a + b, by omega, fun j => by rw [Nat.add_assoc, fa (b + j)]; exact fb j⟩
theorem Mgo.one {x : In} (hx : l[m.pc]? = some x) (h8 : x.op ≠ 8) : Mgo l s 1 m (oneM s x m) := by
  refine ⟨1, Nat.le_refl _, fun j => ?_⟩
  rw [Nat.add_comm, runM.eq_def]
  dsimp only
  rw [hx]
  dsimp only
  rw [if_neg h8]
  cases oneM s x m <;> rfl
theorem Mgo.step {x : In} (hx : l[m.pc]? = some x) (h8 : x.op ≠ 8) (ho : oneM s x m = .ok m1) (h : Mgo l s K m1 r) : Mgo l s (K + 1) m r := by
  have h1 := Mgo.one (s := s) hx h8
  rw [ho] at h1
  rw [Nat.add_comm]
  exact h1.trans h
end
def outM (b : Nat) (st : List (Nat × Int)) : Option Nat -> Except Int MS
  | some q => .ok ⟨b, q, st⟩
  | none => failM st
section
variable {l : List In} {s : List UInt8} {K : Nat} {a p : Nat} {st : List (Nat × Int)} {r : Except Int MS}
theorem Mgo.choice {n : Nat} (hx : l[a]? = some (iN 3 (n : Int))) (hst : st.length < 10000) (h : Mgo l s K ⟨a + 1, p, (n, (p : Int)) :: st⟩ r) : Mgo l s (K + 1) ⟨a, p, st⟩ r := by
  refine Mgo.step hx (show (3 : Int) ≠ 8 from by decide) ?_ h
  unfold oneM iN pushM
  simp
  omega
theorem Mgo.call {n : Nat} (hx : l[a]? = some (iN 5 (n : Int))) (hst : st.length < 10000) (h : Mgo l s K ⟨n, p, (a + 1, -1) :: st⟩ r) : Mgo l s (K + 1) ⟨a, p, st⟩ r := by
  refine Mgo.step hx (show (5 : Int) ≠ 8 from by decide) ?_ h
  unfold oneM iN pushM
  simp
  omega
theorem Mgo.ret {q : Nat} (hx : l[a]? = some (iN 6 0)) (h : Mgo l s K ⟨q, p, st⟩ r) : Mgo l s (K + 1) ⟨a, p, (q, -1) :: st⟩ r := by
  refine Mgo.step hx (by decide) ?_ h
  unfold oneM iN backM
  simp
theorem Mgo.commit {n q z : Nat} (hx : l[a]? = some (iN 4 (n : Int))) (h : Mgo l s K ⟨n, p, st⟩ r) : Mgo l s (K + 1) ⟨a, p, (q, (z : Int)) :: st⟩ r := by
  refine Mgo.step hx (show (4 : Int) ≠ 8 from by decide) ?_ h
  unfold oneM iN backM
  have : decide ((z : Int) < 0) = false := by simp
  simp [this]
theorem Mgo.part {n q z : Nat} (hx : l[a]? = some (iN 9 (n : Int))) (h : Mgo l s K ⟨n, p, (q, (p : Int)) :: st⟩ r) : Mgo l s (K + 1) ⟨a, p, (q, (z : Int)) :: st⟩ r := by
  refine Mgo.step hx (show (9 : Int) ≠ 8 from by decide) ?_ h
  unfold oneM iN backM
  have : decide ((z : Int) < 0) = false := by simp
  simp [this]
theorem Mgo.back {n q z : Nat} (hx : l[a]? = some (iN 10 (n : Int))) (h : Mgo l s K ⟨n, z, st⟩ r) : Mgo l s (K + 1) ⟨a, p, (q, (z : Int)) :: st⟩ r := by
  refine Mgo.step hx (show (10 : Int) ≠ 8 from by decide) ?_ h
  unfold oneM iN backM
  have : decide ((z : Int) < 0) = false := by simp
  simp [this]
theorem Mgo.twice {q z : Nat} (hx : l[a]? = some (iN 11 0)) : Mgo l s 1 ⟨a, p, (q, (z : Int)) :: st⟩ (failM st) := by
  have h := Mgo.one (s := s) (m := ⟨a, p, (q, (z : Int)) :: st⟩) hx (by decide)
  have ho : oneM s (iN 11 0) ⟨a, p, (q, (z : Int)) :: st⟩ = failM st := by
    unfold oneM iN backM
    have : decide ((z : Int) < 0) = false := by simp
    simp [this]
  rw [ho] at h
  exact h
theorem Mgo.fail (hx : l[a]? = some (iN 7 0)) : Mgo l s 1 ⟨a, p, st⟩ (failM st) := by
  have h := Mgo.one (s := s) (m := ⟨a, p, st⟩) hx (by decide)
  have ho : oneM s (iN 7 0) ⟨a, p, st⟩ = failM st := by
    unfold oneM iN
    simp
  rw [ho] at h
  exact h
theorem failM_choice (q z : Nat) : failM ((q, (z : Int)) :: st) = .ok ⟨q, z, st⟩ := by
  unfold failM failL
  simp
theorem failM_call (q : Nat) : failM ((q, -1) :: st) = failM st := by
  unfold failM
  rw [failL, if_neg (by decide)]
theorem Mgo.set {x : In} (hx : l[a]? = some x) (h1 : x.op = 1) : Mgo l s 1 ⟨a, p, st⟩ (if p = s.length \/ hasN x.set (s.getD p 0).toNat = false then failM st else .ok ⟨a + 1, p + 1, st⟩) := by
  have h := Mgo.one (s := s) (m := ⟨a, p, st⟩) hx (by rw [h1]; decide)
  have ho : oneM s x ⟨a, p, st⟩ = (if p = s.length \/ hasN x.set (s.getD p 0).toNat = false then failM st else .ok ⟨a + 1, p + 1, st⟩) := by
    unfold oneM
    rw [if_pos h1]
  rw [ho] at h
  exact h
theorem litI_has (c : UInt8) (x : Nat) (hx : x < 256) : hasN (litI c).set x = decide (c.toNat = x) := by
  have h : (litI c).set = rangeL c.toNat 1 := by
    obtain ⟨x0, x1, x2, x3, he⟩ := four_of (rangeL_len c.toNat 1)
    unfold litI In.set
    rw [he]
    rfl
  have hc := c.toNat_lt
  rw [h, rangeL_in c.toNat 1 (by omega) x hx]
  simp only [decide_eq_decide]
  omega
theorem goes_lit : ∀ (t : List UInt8) (a p : Nat), p <= s.length -> Seg l a (t.map litI) -> Mgo l s t.length ⟨a, p, st⟩ (if litAt s p t = true then .ok ⟨a + t.length, p + t.length, st⟩ else failM st)
  | [], a, p, _, _ => by
    rw [if_pos (by unfold litAt; simp)]
    exact Mgo.here
  | c :: t, a, p, hp, h => by
    rw [List.map_cons] at h
    obtain ⟨h0, h1⟩ := h.cons
    have hs := Mgo.set (s := s) (p := p) (st := st) h0 rfl
    have hb : (s.getD p 0).toNat < 256 := (s.getD p 0).toNat_lt
    rw [litI_has c _ hb] at hs
    by_cases hx : p < s.length /\ s.getD p 0 = c
    · rw [if_neg (by rw [hx.2]; simp; omega)] at hs
      have ih := goes_lit t (a + 1) (p + 1) (by omega) h1
      have hl : litAt s p (c :: t) = litAt s (p + 1) t := by
        unfold litAt
        rw [List.drop_eq_getElem_cons hx.1]
        have h2 := hx.2
        rw [List.getD_eq_getElem?_getD, List.getElem?_eq_getElem hx.1] at h2
        have : s[p]'hx.1 = c := h2
        rw [this, List.isPrefixOf_cons_cons]
        simp
      rw [hl]
      have := hs.trans ih
      rw [List.length_cons, show a + (t.length + 1) = a + 1 + t.length by omega, show p + (t.length + 1) = p + 1 + t.length by omega]
      exact this.more (by omega)
    · rw [if_pos (by
        by_cases h1 : p = s.length
        · exact .inl h1
        · refine .inr ?_
          rw [decide_eq_false_iff_not]
          intro e
          exact hx ⟨by omega, (UInt8.toNat_inj.1 e).symm⟩)] at hs
      rw [if_neg]
      · exact hs.more (by simp)
      · intro hl
        unfold litAt at hl
        have hpre := List.isPrefixOf_iff_prefix.1 hl
        have hlt : p < s.length := by
          have := hpre.length_le
          rw [List.length_drop] at this
          simp at this
          omega
        rw [List.drop_eq_getElem_cons hlt] at hpre
        refine hx ⟨hlt, ?_⟩
        rw [List.getD_eq_getElem?_getD, List.getElem?_eq_getElem hlt]
        obtain ⟨u, hu⟩ := hpre
        rw [List.cons_append] at hu
        injection hu with h1 _
        exact h1.symm
end
def dep (g : List Rl) (s : List UInt8) : Nat -> Job -> Nat -> Nat
  | 0, _, _ => 0
  | n + 1, .ex (.mk k _ _ _ _ t ks), p =>
    if k = 1 \/ k = 2 \/ k = 3 then 0
    else if k = 4 then (match g[(fnd g t.data.toList).toNat]? with
      | some r => 1 + dep g s n (.ex r.2) p
      | none => 0)
    else if k = 5 then dep g s n (.seq ks) p
    else if k = 6 then dep g s n (.alt ks) p
    else (match ks with
      | [] => 0
      | e :: _ => dep g s n (.kid k e) p)
  | n + 1, .kid k e, p =>
    if k = 7 then 1 + dep g s n (.rep e) p
    else match evJ g s n (.ex e) p with
      | some (some tq) => if k = 8 then max (dep g s n (.ex e) p) (1 + dep g s n (.rep e) tq) else 1 + dep g s n (.ex e) p
      | _ => 1 + dep g s n (.ex e) p
  | _ + 1, .seq [], _ => 0
  | n + 1, .seq (e :: es), p => match evJ g s n (.ex e) p with
    | some (some tq) => max (dep g s n (.ex e) p) (dep g s n (.seq es) tq)
    | _ => dep g s n (.ex e) p
  | _ + 1, .alt [], _ => 0
  | n + 1, .alt (e :: es), p => match evJ g s n (.ex e) p with
    | some none => max (1 + dep g s n (.ex e) p) (dep g s n (.alt es) p)
    | _ => 1 + dep g s n (.ex e) p
  | n + 1, .rep e, p => match evJ g s n (.ex e) p with
    | some (some tq) => max (dep g s n (.ex e) p) (dep g s n (.rep e) tq)
    | _ => dep g s n (.ex e) p
def Placed (g : List Rl) (ad : Nat -> Nat) (l : List In) : Prop := ∀ (i : Nat) (r : Rl), g[i]? = some r -> Seg l (ad i) (cE g ad r.2 (ad i) ++ [iN 6 0])
structure MGoes (g : List Rl) (ad : Nat -> Nat) (l : List In) (s : List UInt8) (n : Nat) : Prop where
  ex : ∀ e p o a st, Rt g e -> p <= s.length -> evJ g s n (.ex e) p = some o -> Seg l a (cE g ad e a) -> st.length + dep g s n (.ex e) p <= 10000 -> Mgo l s (16 * cost g s n (.ex e) p - 4) ⟨a, p, st⟩ (outM (a + lE e) st o)
  seq : ∀ es p o a st, (∀ e ∈ es, Rt g e) -> p <= s.length -> evJ g s n (.seq es) p = some o -> Seg l a (cS g ad es a) -> st.length + dep g s n (.seq es) p <= 10000 -> Mgo l s (16 * cost g s n (.seq es) p) ⟨a, p, st⟩ (outM (a + lS es) st o)
  alt : ∀ es p o a fin st, (∀ e ∈ es, Rt g e) -> es ≠ [] -> fin = a + lA es -> p <= s.length -> evJ g s n (.alt es) p = some o -> Seg l a (cA g ad es a fin) -> st.length + dep g s n (.alt es) p <= 10000 -> Mgo l s (16 * cost g s n (.alt es) p) ⟨a, p, st⟩ (outM fin st o)
  rep : ∀ e p o a st, Rt g e -> p <= s.length -> evJ g s n (.rep e) p = some o -> Seg l a (starI (cE g ad e (a + 1)) a) -> st.length + 1 + dep g s n (.rep e) p <= 10000 -> Mgo l s (16 * cost g s n (.rep e) p) ⟨a + 1, p, (a + 2 + lE e, (p : Int)) :: st⟩ (outM (a + 2 + lE e) st o)
  kid : ∀ k e p o a st, 7 <= k -> k <= 11 -> Rt g e -> p <= s.length -> evJ g s n (.kid k e) p = some o -> Seg l a (cK g ad [e] k a) -> st.length + dep g s n (.kid k e) p <= 10000 -> Mgo l s (16 * cost g s n (.kid k e) p + 2) ⟨a, p, st⟩ (outM (a + lK [e] k) st o)
theorem Mgo.as {l : List In} {s : List UInt8} {K K1 : Nat} {m : MS} {r r1 : Except Int MS} (h : Mgo l s K m r) (e : r = r1) (hK : K <= K1) : Mgo l s K1 m r1 := e ▸ h.more hK
theorem star_parts {g : List Rl} {ad : Nat -> Nat} {l : List In} {e : Ex} {a : Nat} (h : Seg l a (starI (cE g ad e (a + 1)) a)) : l[a]? = some (iN 3 ((a + 2 + lE e : Nat) : Int)) /\ Seg l (a + 1) (cE g ad e (a + 1)) /\ l[a + 1 + lE e]? = some (iN 9 ((a + 1 : Nat) : Int)) := by
  unfold starI at h
  rw [cE_len] at h
  obtain ⟨h1, h2⟩ := h.cons
  obtain ⟨h3, h4⟩ := h2.app
  rw [cE_len] at h4
  exact ⟨h1, h3, (h4.cons).1⟩
section
variable {g : List Rl} {ad : Nat -> Nat} {l : List In} {s : List UInt8} {fs : List Fa}
theorem mgoes (H : Fits g fs) (HP : Placed g ad l) : ∀ n, MGoes g ad l s n := by
  intro n
  induction n with
  | zero => exact ⟨fun _ _ _ _ _ _ _ h => (by cases h), fun _ _ _ _ _ _ _ h => (by cases h), fun _ _ _ _ _ _ _ _ _ _ h => (by cases h), fun _ _ _ _ _ _ _ h => (by cases h), fun _ _ _ _ _ _ _ _ _ _ h => (by cases h)⟩
  | succ n ih =>
    have htl : ∀ e p q, Rt g e -> p <= s.length -> evJ g s n (.ex e) p = some (some q) -> q <= s.length := fun e p q h1 h2 h3 => ((told H n).1 e p _ h1 h2 h3).2.1
    have hcp : ∀ e p o, evJ g s n (.ex e) p = some o -> 1 <= cost g s n (.ex e) p := fun e p o h => cost_pos g s n e p o h
    refine ⟨?_, ?_, ?_, ?_, ?_⟩
    · rintro ⟨k, a, b, c, d, t, ks⟩ p o pc st hR hp h hS hd
      cases hR with
      | mk _ _ _ _ _ _ _ hfit hname hkids =>
      have hfc := fit_cases hfit
      rw [evJ.eq_def] at h
      rw [dep.eq_def] at hd
      rw [cE] at hS
      rw [lE, cost_ex]
      dsimp only at h hd
      by_cases h1 : k = 1
      · subst h1
        rw [if_pos rfl] at h
        injection h with h
        subst h
        have hks : ks = [] := by
          have : ks.length = 0 := by omega
          exact List.length_eq_zero_iff.1 this
        subst hks
        exact Mgo.here.as rfl (Nat.zero_le _)
      rw [if_neg h1] at h
      by_cases h2 : k = 2
      · rw [if_pos h2] at h hS
        rw [if_pos h2, if_pos (.inr (.inl h2))]
        injection h with h
        have hs := Mgo.set (s := s) (p := p) (st := st) (hS.cons).1 rfl
        refine hs.as ?_ (by omega)
        have he : hasE a b c d (bt s p) = hasN [a.toNat, b.toNat, c.toNat, d.toNat] (s.getD p 0).toNat := rfl
        rw [he] at h
        show (if p = s.length \/ hasN [a.toNat, b.toNat, c.toNat, d.toNat] (s.getD p 0).toNat = false then _ else _) = _
        by_cases hx : p < s.length /\ hasN [a.toNat, b.toNat, c.toNat, d.toNat] (s.getD p 0).toNat = true
        · rw [if_pos hx] at h
          subst h
          rw [if_neg (by rw [hx.2]; simp; omega)]
          rfl
        · rw [if_neg hx] at h
          subst h
          rw [if_pos]
          · rfl
          · by_cases hy : p = s.length
            · exact .inl hy
            · exact .inr (by
                cases hz : hasN [a.toNat, b.toNat, c.toNat, d.toNat] (s.getD p 0).toNat with
                | false => rfl
                | true => exact absurd ⟨by omega, hz⟩ hx)
      rw [if_neg h2] at h hS
      rw [if_neg h2]
      by_cases h3 : k = 3
      · rw [if_pos h3] at h hS
        rw [if_pos h3, if_pos (.inr (.inr h3))]
        injection h with h
        have hs := goes_lit (l := l) (s := s) (st := st) t.data.toList pc p hp hS
        have hln : t.data.toList.length = t.size := Array.length_toList
        have h12 : t.data.toList.length <= 12 := by omega
        rw [hln] at hs h12
        refine hs.as ?_ (by omega)
        rw [<- h]
        split <;> rfl
      rw [if_neg h3] at h hS
      rw [if_neg h3, if_neg (by rintro (h | h | h) <;> contradiction)]
      rw [if_neg (by rintro (h | h | h) <;> contradiction)] at hd
      by_cases h4 : k = 4
      · rw [if_pos h4] at h hS hd
        rw [if_pos h4, if_pos h4]
        obtain ⟨r, hr, _⟩ := fnd_at (hname h4)
        rw [hr] at h hd
        rw [hr]
        dsimp only at h hd ⊢
        have hpl := HP _ r hr
        obtain ⟨hp1, hp2⟩ := hpl.app
        rw [cE_len] at hp2
        have hc := hcp _ _ _ h
        have hb := ih.ex r.2 p o (ad (fnd g t.data.toList).toNat) ((pc + 1, -1) :: st) (H.right r (List.mem_of_getElem? hr)) hp h hp1 (by simp; omega)
        refine Mgo.more (K := 16 * cost g s n (.ex r.2) p - 4 + 1 + 1) (Mgo.call (K := 16 * cost g s n (.ex r.2) p - 4 + 1) (hS.cons).1 (by omega) ?_) (by show _ <= 16 * (1 + cost g s n (.ex r.2) p) - 4; omega)
        cases o with
        | none => exact hb.as (failM_call _) (by omega)
        | some q => exact Mgo.trans hb ((Mgo.here).ret (hp2.cons).1)
      rw [if_neg h4] at h hS hd
      rw [if_neg h4, if_neg h4]
      by_cases h5 : k = 5
      · rw [if_pos h5] at h hS hd
        rw [if_pos h5, if_pos h5]
        exact (ih.seq ks p o pc st hkids hp h hS hd).more (by omega)
      rw [if_neg h5] at h hS hd
      rw [if_neg h5, if_neg h5]
      by_cases h6 : k = 6
      · rw [if_pos h6] at h hS hd
        rw [if_pos h6, if_pos h6]
        exact (ih.alt ks p o pc _ st hkids (fun e => by rw [e] at hfc; simp only [List.length_nil] at hfc; omega) rfl hp h hS hd).more (by omega)
      rw [if_neg h6] at h hS hd
      rw [if_neg h6, if_neg h6]
      match ks, show ks.length = 1 by omega with
      | [e], _ =>
        dsimp only at h hd ⊢
        exact (ih.kid k e p o pc st (by omega) (by omega) (hkids e (by simp)) hp h hS hd).more (by omega)
    · rintro es p o pc st hR hp h hS hd
      cases es with
      | nil =>
        rw [evJ.eq_def] at h
        dsimp only at h
        injection h with h
        subst h
        exact Mgo.here.as rfl (Nat.zero_le _)
      | cons e es =>
        rw [evJ.eq_def] at h
        rw [dep.eq_def] at hd
        rw [cS] at hS
        rw [lS, cost.eq_def]
        dsimp only at h hd ⊢
        obtain ⟨hS1, hS2⟩ := hS.app
        rw [cE_len] at hS2
        cases he : evJ g s n (.ex e) p with
        | none => rw [he] at h; cases h
        | some u =>
          rw [he] at h hd
          have hc := hcp _ _ _ he
          cases u with
          | none =>
            dsimp only at h hd ⊢
            injection h with h
            subst h
            exact (ih.ex e p none pc st (hR e (by simp)) hp he hS1 hd).as rfl (by omega)
          | some tq =>
            dsimp only at h hd ⊢
            have g1 := ih.ex e p (some tq) pc st (hR e (by simp)) hp he hS1 (by omega)
            have g2 := ih.seq es tq o (pc + lE e) st (fun x hx => hR x (by simp [hx])) (htl e p tq (hR e (by simp)) hp he) h hS2 (by omega)
            rw [<- Nat.add_assoc]
            exact (Mgo.trans g1 g2).more (by omega)
    · rintro es p o pc fin st hR hne hfin hp h hS hd
      cases es with
      | nil => exact absurd rfl hne
      | cons e es =>
        rw [evJ.eq_def] at h
        rw [dep.eq_def] at hd
        rw [cA] at hS
        rw [lA] at hfin
        rw [cost.eq_def]
        dsimp only at h hd ⊢
        cases he : evJ g s n (.ex e) p with
        | none => rw [he] at h; cases h
        | some u =>
          rw [he] at h hd
          have hc := hcp _ _ _ he
          have hRe := hR e (by simp)
          cases hes : es.isEmpty with
          | true =>
            rw [hes, if_pos rfl] at hS hfin
            have hnil : es = [] := List.isEmpty_iff.1 hes
            subst hnil
            cases u with
            | none =>
              dsimp only at h hd ⊢
              have ho : o = none := by
                cases n with
                | zero => cases h
                | succ n => rw [evJ.eq_def] at h; dsimp only at h; injection h with h; exact h.symm
              subst ho
              exact (ih.ex e p none pc st hRe hp he hS (by omega)).as rfl (by omega)
            | some tq =>
              dsimp only at h hd ⊢
              injection h with h
              subst h
              rw [hfin]
              exact (ih.ex e p (some tq) pc st hRe hp he hS (by omega)).more (by omega)
          | false =>
            rw [hes, if_neg (by decide)] at hS hfin
            obtain ⟨x0, hS1⟩ := hS.cons
            obtain ⟨x1, hS2⟩ := hS1.app
            rw [cE_len] at hS2
            obtain ⟨x2, x3⟩ := hS2.cons
            have hne' : es ≠ [] := by rintro rfl; cases hes
            cases u with
            | none =>
              dsimp only at h hd ⊢
              have g1 := ih.ex e p none (pc + 1) ((pc + 2 + lE e, (p : Int)) :: st) hRe hp he x1 (by simp; omega)
              have g1' : Mgo l s (16 * cost g s n (.ex e) p - 4) ⟨pc + 1, p, (pc + 2 + lE e, (p : Int)) :: st⟩ (.ok ⟨pc + 2 + lE e, p, st⟩) := g1.as (failM_choice _ _) (Nat.le_refl _)
              have g2 := ih.alt es p o (pc + 2 + lE e) fin st (fun x hx => hR x (by simp [hx])) hne' (by omega) hp h (by rw [show pc + 1 + lE e + 1 = pc + 2 + lE e by omega] at x3; exact x3) (by omega)
              exact (Mgo.choice x0 (by omega) (g1'.trans g2)).more (by omega)
            | some tq =>
              dsimp only at h hd ⊢
              injection h with h
              subst h
              have g1 := ih.ex e p (some tq) (pc + 1) ((pc + 2 + lE e, (p : Int)) :: st) hRe hp he x1 (by simp; omega)
              exact (Mgo.choice x0 (by omega) (Mgo.trans g1 ((Mgo.here).commit x2))).more (by omega)
    · rintro e p o pc st hR hp h hS hd
      rw [evJ.eq_def] at h
      rw [dep.eq_def] at hd
      rw [cost.eq_def]
      obtain ⟨x0, x1, x2⟩ := star_parts hS
      dsimp only at h hd ⊢
      cases he : evJ g s n (.ex e) p with
      | none => rw [he] at h; cases h
      | some u =>
        rw [he] at h hd
        have hc := hcp _ _ _ he
        cases u with
        | none =>
          dsimp only at h hd ⊢
          injection h with h
          subst h
          exact (ih.ex e p none (pc + 1) ((pc + 2 + lE e, (p : Int)) :: st) hR hp he x1 (by simp; omega)).as (failM_choice _ _) (by omega)
        | some tq =>
          dsimp only at h hd ⊢
          have g1 := ih.ex e p (some tq) (pc + 1) ((pc + 2 + lE e, (p : Int)) :: st) hR hp he x1 (by simp; omega)
          have g2 := ih.rep e tq o pc st hR (htl e p tq hR hp he) h hS (by omega)
          exact (Mgo.trans g1 (Mgo.part x2 g2)).more (by omega)
    · rintro k e p o pc st h7 h11 hR hp h hS hd
      rw [evJ.eq_def] at h
      rw [dep.eq_def] at hd
      rw [cK] at hS
      rw [lK, cost.eq_def]
      dsimp only at h hd ⊢
      by_cases k7 : k = 7
      · rw [if_pos k7] at h hd hS
        rw [if_pos k7, if_pos k7]
        obtain ⟨x0, x1, x2⟩ := star_parts hS
        have g1 := ih.rep e p o pc st hR hp h hS (by omega)
        exact (Mgo.choice x0 (by omega) g1).as (by congr 1; omega) (by omega)
      rw [if_neg k7] at h hd hS
      rw [if_neg k7, if_neg k7]
      cases he : evJ g s n (.ex e) p with
      | none => rw [he] at h; cases h
      | some u =>
        rw [he] at h hd
        have hc := hcp _ _ _ he
        by_cases k8 : k = 8
        · rw [if_pos k8] at hS
          rw [if_pos k8]
          obtain ⟨y1, y2⟩ := hS.app
          rw [cE_len] at y2
          obtain ⟨x0, x1, x2⟩ := star_parts y2
          cases u with
          | none =>
            dsimp only at h hd ⊢
            rw [if_pos (.inl k8)] at h
            injection h with h
            subst h
            exact (ih.ex e p none pc st hR hp he y1 (by omega)).as rfl (by omega)
          | some tq =>
            dsimp only at h hd ⊢
            rw [if_pos k8] at h hd
            rw [if_pos k8]
            have g1 := ih.ex e p (some tq) pc st hR hp he y1 (by omega)
            have g2 := ih.rep e tq o (pc + lE e) st hR (htl e p tq hR hp he) h y2 (by omega)
            exact (Mgo.trans g1 (Mgo.choice x0 (by omega) g2)).as (by congr 1; omega) (by omega)
        rw [if_neg k8] at hS
        rw [if_neg k8]
        have hd1 : st.length + (1 + dep g s n (.ex e) p) <= 10000 := by
          cases u with
          | none => exact hd
          | some tq => dsimp only at hd; rw [if_neg k8] at hd; exact hd
        suffices hh : Mgo l s (16 * cost g s n (.ex e) p + 2) ⟨pc, p, st⟩ (outM (pc + if k = 9 then lE e + 2 else if k = 10 then lE e + 3 else if k = 11 then lE e + 2 else 0) st o) by
          cases u with
          | none => exact hh
          | some tq => dsimp only; rw [if_neg k8]; exact hh
        by_cases k9 : k = 9
        · rw [if_pos k9] at hS
          rw [if_pos k9]
          obtain ⟨x0, hS1⟩ := hS.cons
          obtain ⟨x1, hS2⟩ := hS1.app
          rw [cE_len] at hS2
          have x2 := (hS2.cons).1
          have g1 := ih.ex e p u (pc + 1) ((pc + 2 + lE e, (p : Int)) :: st) hR hp he x1 (by simp; omega)
          cases u with
          | none =>
            dsimp only at h
            rw [if_neg (by omega)] at h
            injection h with h
            subst h
            have g2 := g1.as (failM_choice _ _) (Nat.le_refl _)
            exact (Mgo.choice x0 (by omega) g2).as (by unfold outM; dsimp only; congr 2; omega) (by omega)
          | some tq =>
            dsimp only at h
            rw [if_neg k8, if_pos k9] at h
            injection h with h
            subst h
            exact (Mgo.choice x0 (by omega) (Mgo.trans g1 ((Mgo.here).commit x2))).as (by unfold outM; dsimp only; congr 2; omega) (by omega)
        rw [if_neg k9] at hS
        rw [if_neg k9]
        by_cases k10 : k = 10
        · rw [if_pos k10] at hS
          rw [if_pos k10]
          obtain ⟨x0, hS1⟩ := hS.cons
          obtain ⟨x1, hS2⟩ := hS1.app
          rw [cE_len] at hS2
          obtain ⟨x2, hS3⟩ := hS2.cons
          have x3 := (hS3.cons).1
          have g1 := ih.ex e p u (pc + 1) ((pc + 2 + lE e, (p : Int)) :: st) hR hp he x1 (by simp; omega)
          cases u with
          | none =>
            dsimp only at h
            rw [if_pos (.inr k10)] at h
            injection h with h
            subst h
            have g2 : Mgo l s (16 * cost g s n (.ex e) p - 4) ⟨pc + 1, p, (pc + 2 + lE e, (p : Int)) :: st⟩ (.ok ⟨pc + 2 + lE e, p, st⟩) := g1.as (failM_choice _ _) (Nat.le_refl _)
            exact (Mgo.choice x0 (by omega) (g2.trans (Mgo.fail (by rw [show pc + 2 + lE e = pc + 1 + lE e + 1 by omega]; exact x3)))).more (by omega)
          | some tq =>
            dsimp only at h
            rw [if_neg k8, if_neg k9, if_pos k10] at h
            injection h with h
            subst h
            exact (Mgo.choice x0 (by omega) (Mgo.trans g1 ((Mgo.here).back x2))).as (by unfold outM; dsimp only; congr 2; omega) (by omega)
        · have k11 : k = 11 := by omega
          rw [if_neg k10, if_pos k11] at hS
          rw [if_neg k10, if_pos k11]
          obtain ⟨x0, hS1⟩ := hS.cons
          obtain ⟨x1, hS2⟩ := hS1.app
          rw [cE_len] at hS2
          have x2 := (hS2.cons).1
          have g1 := ih.ex e p u (pc + 1) ((pc + 2 + lE e, (p : Int)) :: st) hR hp he x1 (by simp; omega)
          cases u with
          | none =>
            dsimp only at h
            rw [if_neg (by omega)] at h
            injection h with h
            subst h
            exact (Mgo.choice x0 (by omega) (g1.as (failM_choice _ _) (Nat.le_refl _))).as (by unfold outM; dsimp only; congr 2; omega) (by omega)
          | some tq =>
            dsimp only at h
            rw [if_neg k8, if_neg k9, if_neg k10] at h
            injection h with h
            subst h
            exact (Mgo.choice x0 (by omega) (Mgo.trans g1 (Mgo.twice x2))).more (by omega)
end
end Go.Proofs.Ytkmcnekjimobhaa
namespace Go.Proofs.Ytkmcnekjimobhaa
set_option maxHeartbeats 4000000
set_option maxRecDepth 100000
open Go.RowKit
def setN (l : List In) (i : Nat) (v : Int) : List In := match l[i]? with
  | some x => l.set i { x with n := v }
  | none => l
theorem setN_len (l : List In) (i : Nat) (v : Int) : (setN l i v).length = l.length := by
  unfold setN
  cases l[i]? with
  | none => rfl
  | some x => simp
theorem inCells_cons (x : In) (l : List In) : inCells (x :: l) = inC x ++ inCells l := by
  unfold inCells inC
  rw [List.flatMap_cons]
theorem inCells_set : ∀ (l : List In) (i : Nat) (x : In) (v : Int), l[i]? = some x -> (inCells l).set (i * 6 + 1) (.int .i64 v) = inCells (l.set i { x with n := v })
  | [], i, x, v, h => by simp at h
  | y :: l, 0, x, v, h => by
    simp at h
    subst h
    rw [List.set_cons_zero, inCells_cons, inCells_cons]
    rfl
  | y :: l, i + 1, x, v, h => by
    have ih := inCells_set l i x v (by simpa using h)
    rw [List.set_cons_succ, inCells_cons, inCells_cons, <- ih, List.set_append]
    rw [if_neg (by simp [inC]; omega)]
    congr 2
    simp [inC]
    omega
theorem own_setN {w : World} {base g i c : Nat} {l : List In} {x : In} (h : w.ownsRow base 62 6 (.slice (some ⟨g, 0, none⟩) l.length c) l.length (inCells l)) (hx : l[i]? = some x) (v : Int) :
    (w.setCell ⟨g, i * 6 + 1, none⟩ (.int .i64 v)).ownsRow base 62 6 (.slice (some ⟨g, 0, none⟩) l.length c) (setN l i v).length (inCells (setN l i v)) := by
  have hi := getElem?_lt hx
  rw [setN_len]
  unfold setN
  rw [hx]
  dsimp only
  refine ⟨by rw [inCells_len]; simp, ?_⟩
  rcases h.2 with ⟨e, _⟩ | ⟨g', c', cur, e, e1, e2, e3, e4, e5, e6⟩
  · cases e
  · simp only [Value.slice.injEq, Option.some.injEq, Addr.mk.injEq, and_true, true_and] at e
    obtain ⟨rfl, rfl⟩ := e
    have hb : Blk w g 62 cur := e2
    refine .inr ⟨g, _, _, rfl, e1, hb.set_ (i * 6 + 1) (.int .i64 v), e3, e4, by simpa using e5, ?_⟩
    rw [Array.toList_setIfInBounds, List.take_set, e6]
    exact inCells_set l i x v hx
structure HereC (wb : Nat) (wv : Array Value) (W : World) : Prop where
  wr : Blk W wb 110 wv
def HereQ (wb base : Nat) (gv ov cv : Value) (l : List In) (cs : List Nat) (i : Nat) (w : World) (e : Ending) (w' : World) : Prop :=
  e = .returned (.tuple #[]) /\ WrI w' wb base gv ov cv (setN l i l.length) cs /\ Wk wb ov.ownBlock none w w'
theorem here_any {wb base : Nat} {gv ov cv : Value} {l : List In} {cs : List Nat} {w : World} (h : WrI w wb base gv ov cv l cs) {i : Nat} (hi : i < l.length) :
    Calls Try.prog 84 #[.pointer (some ⟨wb, 0, none⟩), .int .i64 i] w (HereQ wb base gv ov cv l cs i w) := by
  obtain ⟨g, c, rfl, hgb, hgl⟩ := h.out.form (by omega)
  have hlo := h.lo
  obtain ⟨x, hx⟩ : ∃ x, l[i]? = some x := ⟨_, List.getElem?_eq_getElem hi⟩
  have hu : ∃ u, w.cell? ⟨g, i * 6 + 1, none⟩ = some u := by
    have h1 := inCells_get l i x hx 1 _ rfl
    have hil : i * 6 + 1 < l.length * 6 := by omega
    exact ⟨_, by rw [h.out.cellAt _ (by omega)]; exact h1⟩
  obtain ⟨u0, hu⟩ := hu
  have hf := h.out.frozenAt (i * 6 + 1)
  have hcl : (w.setCell ⟨g, i * 6 + 1, none⟩ (.int .i64 (l.length : Int))).ownsRow base 3 1 cv cs.length (nV cs) := h.calls.kept (⟨rfl, rfl, rfl, by simp [World.setCell], fun k _ hne => Below.heap_setCell w ⟨g, i * 6 + 1, none⟩ _ k (by rintro rfl; exact hne rfl)⟩ : w.grownBy (w.setCell ⟨g, i * 6 + 1, none⟩ (.int .i64 (l.length : Int))) (some g)) (own_apart h.calls h.out (by decide))
  have hF : HereQ wb base gv (.slice (some ⟨g, 0, none⟩) l.length c) cv l cs i w (.returned (.tuple #[])) ((w.drew).setCell ⟨g, i * 6 + 1, none⟩ (.int .i64 (l.length : Int))) := by
    have h2 := own_setN h.out hx (l.length : Int)
    exact ⟨rfl, ⟨⟨hlo.1, by simpa [World.setCell] using hlo.2⟩, (h.box.far (p := ⟨g, i * 6 + 1, none⟩) (by show wb ≠ g; omega) _).drew, h2, hcl⟩, (Wk.of_below (Below.refl _ _).drew).set_ (.inr (.inl rfl)) _ _⟩
  have HF := Lib.hid hF
  have hwr := h.box
  have hi1 : (i : Int) < (l.length : Int) := by omega
  have hi0 : (0 : Int) <= (i : Int) := by omega
  clear hF hcl h hx
  go_enter Try.func84, Try.ntmps84
  go_upto_region 0 with fail
  refine wp_region_l (HereC wb #[gv, .slice (some ⟨g, 0, none⟩) l.length c, cv]) (fun i => i == 12) (by kernel_rfl) ?_
  have hC : HereC wb #[gv, .slice (some ⟨g, 0, none⟩) l.length c, cv] w.drew := ⟨hwr.drew⟩
  have hu : w.drew.cell? ⟨g, i * 6 + 1, none⟩ = some u0 := hu
  have hf : w.drew.frozen? ⟨g, i * 6 + 1, none⟩ = false := hf
  generalize w.drew = wd at hC hu hf HF ⊢
  apply L.rdt (i := 0) rfl (by kernel_rfl) hC rfl
  · intro W hW
    skip
    unfold readW
    go_simp
    first | rfl | exact ⟨rfl, rfl⟩
  first | simp only [Act.put, p1, p2, p3] | skip
  apply L.rdt (i := 1) rfl (by kernel_rfl) hC rfl
  · intro W hW
    skip
    unfold readW
    go_simp
    first | rfl | exact ⟨rfl, rfl⟩
  first | simp only [Act.put, p1, p2, p3] | skip
  apply L.rdt (i := 2) rfl (by kernel_rfl) hC rfl
  · intro W hW
    skip
    unfold readW
    go_simp
    first | rfl | exact ⟨rfl, rfl⟩
  first | simp only [Act.put, p1, p2, p3] | skip
  apply L.rdt (i := 3) rfl (by kernel_rfl) hC rfl
  · intro W hW
    have n0 := hW.wr.cell 1
    unfold readW
    go_simp
    first | rfl | exact ⟨rfl, rfl⟩
  first | simp only [Act.put, p1, p2, p3] | skip
  apply L.rdt (i := 4) rfl (by kernel_rfl) hC rfl
  · intro W hW
    skip
    unfold readW
    go_simp
    first | rfl | exact ⟨rfl, rfl⟩
  first | simp only [Act.put, p1, p2, p3] | skip
  apply L.rdt (i := 5) rfl (by kernel_rfl) hC rfl
  · intro W hW
    skip
    unfold readW
    go_simp
    first | rfl | exact ⟨rfl, rfl⟩
  first | simp only [Act.put, p1, p2, p3] | skip
  apply L.rdt (i := 6) rfl (by kernel_rfl) hC rfl
  · intro W hW
    skip
    unfold readW
    go_simp
    first | rfl | exact ⟨rfl, rfl⟩
  first | simp only [Act.put, p1, p2, p3] | skip
  apply L.rdt (i := 7) rfl (by kernel_rfl) hC rfl
  · intro W hW
    skip
    unfold readW
    go_simp
    first | rfl | exact ⟨rfl, rfl⟩
  first | simp only [Act.put, p1, p2, p3] | skip
  apply L.rdt (i := 8) rfl (by kernel_rfl) hC rfl
  · intro W hW
    have n0 := hW.wr.cell 1
    unfold readW
    go_simp
    first | rfl | exact ⟨rfl, rfl⟩
  first | simp only [Act.put, p1, p2, p3] | skip
  apply L.rdt (i := 9) rfl (by kernel_rfl) hC rfl
  · intro W hW
    skip
    unfold readW
    go_simp
    first | rfl | exact ⟨rfl, rfl⟩
  first | simp only [Act.put, p1, p2, p3] | skip
  apply L.rdt (i := 10) rfl (by kernel_rfl) hC rfl
  · intro W hW
    skip
    unfold readW
    go_simp
    first | rfl | exact ⟨rfl, rfl⟩
  first | simp only [Act.put, p1, p2, p3] | skip
  apply L.rdt (i := 11) rfl (by kernel_rfl) hC rfl
  · intro W hW
    skip
    unfold readW
    go_simp
    first | rfl | exact ⟨rfl, rfl⟩
  first | simp only [Act.put, p1, p2, p3] | skip
  apply L.one (i := 12) rfl (by kernel_rfl) rfl
  unfold stepT
  go_simp
  refine L.done (by kernel_rfl) ?_
  go_wp2
  go_end0
  exact HF.out
end Go.Proofs.Ytkmcnekjimobhaa
