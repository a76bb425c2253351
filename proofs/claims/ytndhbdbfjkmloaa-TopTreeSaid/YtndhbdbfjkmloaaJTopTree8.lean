/- What pack.count answers. The map that remembers outcomes: keys of two numbers. A parser in memory. What (*Parser).miss does. The plain parser never goes behind the text's end. Plain laws of words of 64 bits. How a set that came in is opened: four words of 64 bits. How an expression that came in is opened. How a grammar that came in is opened. (*Parser).try: what a node does, and no more (no one is told). -/
import Derived.Test.YtndhbdbfjkmloaaJTopTree7
import Derived.Maps.OwnSet
import Derived.DeepKeys4
import Derived.Test.YtndhbdbfjkmloaaJTopTree6
import Derived.Test.YtndhbdbfjkmloaaJTopTree0
import Derived.Test.YtndhbdbfjkmloaaJTopTree1
namespace Go.Proofs.Ytndhbdbfjkmloaa
open Go.RowKit

theorem nodesAll_mem : ∀ {ks : List Ex} {e : Ex}, e ∈ ks → nodes e ≤ nodesAll ks
  | _ :: _, _, h => by
    rw [nodesAll]
    rcases List.mem_cons.1 h with rfl | h
    · omega
    · have := nodesAll_mem h; omega

set_option maxRecDepth 100000 in
set_option maxHeartbeats 8000000 in
theorem countK_any (e : Ex) : ∀ (cs : List Value) (w : World), ExIs w w.heap.size e cs → nodes e ≤ 1000000000000 →
    Calls Try.prog 34 #[.agg cs.toArray] w fun e' w' => e' = .returned (.int .i64 (nodes e)) ∧ Below w.heap.size w w' := by
  refine Ex.ind (P := fun e => ∀ (cs : List Value) (w : World), ExIs w w.heap.size e cs → nodes e ≤ 1000000000000 →
    Calls Try.prog 34 #[.agg cs.toArray] w fun e' w' => e' = .returned (.int .i64 (nodes e)) ∧ Below w.heap.size w w') ?_ e
  intro k a b c d t ks ih cs w hE h60
  obtain ⟨ht, KA, kcp, rfl, hkc, hkm, _⟩ := hE.shape
  unfold exCells
  rw [nodes] at h60
  have hlo := fun (j : Nat) (k' a' b' c' d' : Int) (t' : ByteArray) (ks' : List Ex) (A' : Option Addr) (cp' : Nat) (W : World) (hW : Below w.heap.size w W) (hj : ks[j]? = some (.mk k' a' b' c' d' t' ks'))
      (hE' : ExIs W w.heap.size (.mk k' a' b' c' d' t' ks') (exCells k' a' b' c' d' t' A' ks'.length cp')) =>
    ih _ (List.mem_of_getElem? hj) _ W (hE'.keep hW.size fun _ _ => rfl) (by have := nodesAll_mem (List.mem_of_getElem? hj); omega)
  unfold exCells at hlo
  have HLO := Lib.hid hlo
  have HE := Lib.hid hE
  have HX : Hid (1 + nodesAll ks = nodes (.mk k a b c d t ks)) := by show _ = _; rw [nodes]
  generalize nodes (.mk k a b c d t ks) = N at HX
  have hm8 : ks.length ≤ 9223372036854775807 := by unfold maxLen at hkm; omega
  have hN : N ≤ 1000000000000 := by have := HX.out; omega
  clear hlo ih hE h60
  go_enter Try.func34, Try.ntmps34
  go_wp2
  go_loopw [3, 9] (fun n i wr => ∃ j q : Nat, j ≤ ks.length ∧ i = .int .i64 j ∧ n = .int .i64 q ∧ Hid (q + nodesAll (ks.drop j) = N) ∧ Below w.heap.size w wr) (fun _ i _ => ks.length - (intOf i).toNat)
  case atStart => exact ⟨0, 1, by omega, rfl, rfl, HX, (by repeat (first | exact Below.refl _ _ | assumption | refine Below.drew ?_ | refine below_drewN ?_ _ | refine Below.alloc ?_ (by first | omega | (simp; omega) | simp) _ | refine Below.setCell ?_ (by first | omega | (simp; omega) | simp) _))⟩
  case round =>
    obtain ⟨j, q, hj, rfl, rfl, HR, hbel⟩ := hrel
    have hz := hbel.size
    by_cases hjk : j < ks.length
    · obtain ⟨ad, k', a', b', c', d', t', ks', A', cp', rfl, hab, hej, hE', ⟨e0, e1, e2, e3, e4, e5, e6⟩⟩ := (HE.out.on hbel).kid hjk
      have hcall := fun W (hW : Below w.heap.size wr W) => HLO.out j k' a' b' c' d' t' ks' A' cp' W (hbel.trans hW) hej (hE'.on hW)
      have HC := Lib.hid hcall
      have HD := Lib.hid (drop_of hej)
      have hq : q + nodes (.mk k' a' b' c' d' t' ks') + nodesAll (ks.drop (j + 1)) = N := by rw [← HR.out, HD.out, nodesAll]; omega
      generalize nodes (.mk k' a' b' c' d' t' ks') = z at HC hq
      have hqz : q + z ≤ 1000000000000 := by omega
      have HQ := Lib.hid hq
      clear hcall hej hE' hq
      go_wp2_with fail
      refine (HC.out _ (by repeat (first | exact Below.refl _ _ | assumption | refine Below.drew ?_ | refine below_drewN ?_ _ | refine Below.alloc ?_ (by first | omega | (simp; omega) | simp) _ | refine Below.setCell ?_ (by first | omega | (simp; omega) | simp) _))).mono ?_
      rintro e w2 ⟨rfl, hb2⟩
      have hbel2 : Below w.heap.size w w2 := (hbel.alloc hz _).trans (hb2.mono (by simp; omega))
      clear hb2
      go_wp2
      go_roundw
      case rel => exact ⟨j + 1, q + z, by omega, by go_num, by go_num, HQ, hbel2⟩
      case measure => simp [intOf]; omega
    · obtain rfl : j = ks.length := by omega
      have hq : q = N := by rw [← HR.out, List.drop_length, nodesAll]; rfl
      subst hq
      go_wp2
      go_ret
      exact ⟨rfl, hbel⟩
end Go.Proofs.Ytndhbdbfjkmloaa
namespace Go.Proofs.Ytndhbdbfjkmloaa
open Go.RowKit Go.Maps

/-- a key of two numbers -/
theorem keyOf_two {P : Program} {k t : TypeId} {q : IntKind}
    (h : (match P.underlying k with | some (.struct fs) => decide (fs.toList.map (fun f => (f.type, f.offset)) = [(t, 0), (t, 1)]) && fs.all (·.name != "_") | _ => false) = true)
    (hc : P.cellsOf k = 2) (hk : P.keyType k = true) (ht : P.underlying t = some (.int q)) (hct : P.cellsOf t = 1) (hsz : 0 < P.types.size) {a b : Int} (ha : (Lit.int q a).wf = true) (hb : (Lit.int q b).wf = true) :
    keyOf P k (.agg #[.int q a, .int q b]) = some (.string (keyBytes [.int q a, .int q b])) := by
  cases hu : P.underlying k with
  | none => rw [hu] at h; cases h
  | some u =>
    rw [hu] at h
    cases u with
    | struct fs =>
      simp only [Bool.and_eq_true, decide_eq_true_eq] at h
      obtain ⟨h1, h2⟩ := h
      have hf : (Value.agg #[.int q a, .int q b]).formed P k = true := by simp [Value.formed, hu, hc]
      have hl : P.keyLits (P.types.size + 1) k [.int q a, .int q b] = some [.int q a, .int q b] := by
        obtain ⟨m, hm⟩ : ∃ m, P.types.size = m + 1 := ⟨P.types.size - 1, by omega⟩
        rw [hm]
        have hi : ∀ c : Int, (Lit.int q c).wf = true → P.keyLits (m + 1) t [.int q c] = some [.int q c] := by
          intro c hc
          simp [Program.keyLits, ht, hc]
        rw [Program.keyLits.eq_def]
        simp only [hu]
        rw [if_pos ⟨by simp [hc], h2⟩]
        cases hfs : fs.toList with
        | nil => rw [hfs] at h1; cases h1
        | cons f1 r =>
          cases r with
          | nil => rw [hfs] at h1; simp at h1
          | cons f2 r =>
            rw [hfs] at h1
            simp only [List.map_cons, List.cons.injEq, Prod.mk.injEq, List.map_eq_nil_iff] at h1
            obtain ⟨⟨a1, a2⟩, ⟨b1, b2⟩, rfl⟩ := h1
            simp [a1, a2, b1, b2, hct, hi a ha, hi b hb]
      unfold keyOf
      rw [hu]
      simp only [hk, hf, Bool.and_self, if_true]
      show Option.map _ (P.keyLits (P.types.size + 1) k [.int q a, .int q b]) = _
      rw [hl]
      rfl
    | _ => cases h

set_option maxRecDepth 100000
theorem laid_out : laidOutB Try.prog = true := by kernel_rfl
theorem key_wide : (match Try.prog.underlying 90 with | some (.array _ _) | some (.struct _) => true | _ => false) = true := by kernel_rfl
theorem key_row : (90 : TypeId) < Try.prog.types.size := of_decide_eq_true (by kernel_rfl)
theorem key_deep : Try.prog.keyTypeAt 2 90 = true := by kernel_rfl
theorem key_law0 : WideMaps.KeyLaw Try.prog 90 := deep_law_laid laid_out (m := 2) (by omega) key_row key_deep key_wide
theorem key_law : Keyed Try.prog 90 := Keyed.of_law key_law0
theorem map_und : Try.prog.underlying 80 = some (.map 90 48) := by kernel_rfl
theorem out_zero (w : World) : (zeroValue 48).run Try.prog w = .ok (.agg #[.bool false, .int .i64 0]) w := by kernel_rfl

def keyV (i p : Nat) : Value := .agg #[.int .i64 i, .int .i64 p]
def keyL (i p : Nat) : Lit := .string (keyBytes [.int .i64 i, .int .i64 p])
def big : Nat := 1000000000000
theorem key_of {i p : Nat} (hi : i ≤ big) (hp : p ≤ big) : keyOf Try.prog 90 (keyV i p) = some (keyL i p) := by
  unfold big at hi hp
  exact keyOf_two (t := 3) (by kernel_rfl) (by kernel_rfl) (by kernel_rfl) (by kernel_rfl) (by kernel_rfl) (of_decide_eq_true (by kernel_rfl)) (WalkArith.wf_i64 (by omega)) (WalkArith.wf_i64 (by omega))
theorem key_ne {i p i' p' : Nat} (hi : i ≤ big) (hp : p ≤ big) (hi' : i' ≤ big) (hp' : p' ≤ big) (h : (i, p) ≠ (i', p')) : keyL i p ≠ keyL i' p' := by
  intro he
  have h1 := key_of hi hp
  rw [he] at h1
  have h2 := key_law.inj h1 (key_of hi' hp')
  unfold keyV at h2
  simp at h2
  exact h (by rw [Int.ofNat.inj h2.1, Int.ofNat.inj h2.2])

/-- an outcome as it lies in memory, and as it is read -/
def outV : Option Nat → Value
  | none => .agg #[.bool false, .int .i64 0]
  | some n => .agg #[.bool true, .int .i64 n]
def outR (v : Value) : Option (DataW Unit × List MemPlace) := match v with
  | .agg cs => (match cs.toList with
    | [.bool b, .int .i64 n] => some (.slice [.lit (.bool b), .lit (.int .i64 n)] [], [])
    | _ => none)
  | _ => none
def outD : Option Nat → DataW Unit
  | none => .slice [.lit (.bool false), .lit (.int .i64 0)] []
  | some n => .slice [.lit (.bool true), .lit (.int .i64 n)] []
theorem outR_V (o : Option Nat) : outR (outV o) = some (outD o, []) := by cases o <;> rfl
theorem outR_inv {v : Value} {o : Option Nat} {ps : List MemPlace} (h : outR v = some (outD o, ps)) : v = outV o := by
  unfold outR at h
  split at h
  · rename_i cs
    split at h
    · rename_i b n hc
      have hcs : cs = #[.bool b, .int .i64 n] := by
        apply Array.toList_inj.1
        rw [hc]
      subst hcs
      cases o <;> (simp [outD] at h; obtain ⟨⟨rfl, rfl⟩, _⟩ := h; rfl)
    · cases h
  · cases h

/-- a block that remembers -/
def Memo (w : World) (M : Nat) (l : List ((Nat × Nat) × Option Nat)) : Prop := ∃ D, w.ownsMap Try.prog 90 outR M l.length D ∧ IsMap D ∧ ∀ i p, i ≤ big → p ≤ big → has D (keyL i p) = (recall l (i, p)).isSome ∧ ∀ o, recall l (i, p) = some o → D.atKey (keyL i p) (outD none) = outD o
theorem Memo.lt {w : World} {M : Nat} {l : List ((Nat × Nat) × Option Nat)} (h : Memo w M l) : M < w.heap.size := h.choose_spec.1.lt
theorem Memo.kept {w w' : World} {M : Nat} {l : List ((Nat × Nat) × Option Nat)} {r : Option Nat} (h : Memo w M l) (hg : w.grownBy w' r) (hne : some M ≠ r) : Memo w' M l := by
  obtain ⟨D, h1, h2⟩ := h
  exact ⟨D, h1.kept hg hne, h2⟩
theorem memo_made (w : World) : Memo (w.alloc (.map #[] 0)) w.heap.size [] := ⟨.map [], World.ownsMap_made _ _ _ _, isMap_empty, fun i p _ _ => ⟨rfl, fun o h => by cases h⟩⟩
/-- what is looked up -/
theorem Memo.look {w : World} {M : Nat} {l : List ((Nat × Nat) × Option Nat)} (h : Memo w M l) {i p : Nat} (hi : i ≤ big) (hp : p ≤ big) :
    (Instr.lookup 80 (.map (some M)) (.agg #[.int .i64 i, .int .i64 p]) true).run Try.prog w = .ok (.tuple #[outV ((recall l (i, p)).getD none), .bool (recall l (i, p)).isSome]) w := by
  obtain ⟨D, h1, h2, h3⟩ := h
  obtain ⟨ha, hb⟩ := h3 i p hi hp
  obtain ⟨v, ps, hrun, hv⟩ := h1.look_ok key_law map_und (out_zero w) (outR_V none) (key_of hi hp)
  rw [show (Instr.lookup 80 (.map (some M)) (.agg #[.int .i64 i, .int .i64 p]) true).run Try.prog w = _ from hrun, ha]
  have hvo : v = outV ((recall l (i, p)).getD none) := by
    cases hr : recall l (i, p) with
    | none =>
      rw [hr] at ha
      rw [atKey_of_not_has ha] at hv
      exact outR_inv hv
    | some o =>
      rw [hb o hr] at hv
      exact outR_inv hv
  rw [hvo]
/-- what is put in -/
theorem Memo.put {w : World} {M : Nat} {l : List ((Nat × Nat) × Option Nat)} (h : Memo w M l) (hl : l.length < maxLen) {i p : Nat} (hi : i ≤ big) (hp : p ≤ big) (hn : recall l (i, p) = none) (o : Option Nat) :
    ∃ w', (Instr.mapUpdate 80 (.map (some M)) (.agg #[.int .i64 i, .int .i64 p]) (outV o)).run Try.prog w = .ok () w' ∧ Memo w' M (l ++ [((i, p), o)]) ∧ w.grownBy w' (some M) := by
  obtain ⟨D, h1, h2, h3⟩ := h
  obtain ⟨w', hrun, r1, r2⟩ := h1.update key_law map_und hl (key_of hi hp) (outR_V o)
  refine ⟨w', hrun, ⟨D.put (keyL i p) (outD o), by simpa using r1, h2.put _ _, fun j q hj hq => ?_⟩, r2⟩
  rw [recall_app]
  by_cases he : (i, p) = (j, q)
  · injection he with e1 e2
    subst e1 e2
    rw [hn]
    simp only [Option.isSome_none, Bool.false_eq_true, if_false, if_true]
    refine ⟨has_put_same h2 (key_law.key (key_of hi hp)) _, fun o' ho => ?_⟩
    injection ho with ho
    subst ho
    exact atKey_put_same h2 (key_law.key (key_of hi hp)) _ _
  · have hne : keyL j q ≠ keyL i p := key_ne hj hq hi hp (fun e => he e.symm)
    rw [has_put_other hne, atKey_put_other hne, (h3 j q hj hq).1]
    cases hr : recall l (j, q) with
    | some o' =>
      simp only [Option.isSome_some, if_true]
      exact ⟨trivial, fun o'' ho => (h3 j q hj hq).2 o'' (by rw [hr]; exact ho)⟩
    | none =>
      simp only [Option.isSome_none, Bool.false_eq_true, if_false]
      rw [if_neg he]
      exact ⟨rfl, fun o'' ho => by cases ho⟩
end Go.Proofs.Ytndhbdbfjkmloaa
namespace Go.Proofs.Ytndhbdbfjkmloaa
open Go.RowKit Go.Maps

/-- where a parser lies, and what of it never turns -/
structure PC where
  B : Nat
  P : Nat
  M : Nat
  F : Nat
  base : Nat
  A : Option Addr
  n : Nat
  cp : Nat
  fcp : Nat
  s : ByteArray
  hook : Value
  firsts : List Nat
  g : List Rl
  row : Nat → List Value
  ob : Nat
  bo : Nat
  hk : Bool
  lim : Nat
def outC : Option Nat → List Value
  | none => [.bool false, .int .i64 0]
  | some n => [.bool true, .int .i64 n]
def stepC (x : Nat × Nat × Option Nat) : List Value := .int .i64 x.1 :: .int .i64 x.2.1 :: outC x.2.2
def parC (c : PC) (lv : Value) (σ : PS) : Array Value :=
  #[.slice c.A c.n c.cp, .string c.s, .map (some c.M), lv, .int .i64 σ.far, .int .u64 σ.want.a, .int .u64 σ.want.b, .int .u64 σ.want.c, .int .u64 σ.want.d, c.hook, .slice (some ⟨c.F, 0, none⟩) c.n c.fcp]
structure PC.Ok (c : PC) : Prop where
  BP : c.B ≤ c.P
  BM : c.B ≤ c.M ∧ c.B ≤ c.ob
  Bb : c.B ≤ c.base
  P : c.P < c.base
  M : c.M < c.base ∧ c.ob < c.base
  F : c.F < c.base
  ne1 : c.F ≠ c.P
  ne2 : c.F ≠ c.M ∧ c.F ≠ c.ob
  ne3 : c.M ≠ c.P ∧ c.ob ≠ c.P
  len : c.n = c.g.length
  fst : ∀ i, i < c.g.length → c.firsts[i]? = some (firstN c.g i)
  lim : c.lim ≤ 1000000000000
  bx : c.hk = true → c.ob ≠ c.M ∧ c.bo ≠ c.ob ∧ c.bo ≠ c.P ∧ c.bo ≠ c.M ∧ c.bo < c.base
/-- marks as cells -/
def mkC (l : List Nat) : List Value := l.map fun (n : Nat) => Value.int .i64 n
/-- where someone is told of each node: the marks lie in a row whose slice lies in a box -/
def MkOk (c : PC) (w : World) (l : List Nat) : Prop := c.hk = true → Blk w c.bo 83 #[.slice (some ⟨c.ob, 0, none⟩) c.lim c.lim] ∧ Blk w c.ob 3 (mkC l).toArray ∧ l.length = c.lim ∧ ∀ m ∈ l, m ≤ 3
theorem MkOk.keep {c : PC} {w w' : World} {l : List Nat} (h : MkOk c w l) (hk : ∀ k, c.hk = true → k < w.heap.size → (k = c.bo ∨ k = c.ob) → w'.heap[k]? = w.heap[k]?) : MkOk c w' l := fun hh => by
  obtain ⟨h1, h2, h3, h4⟩ := h hh
  exact ⟨(hk _ hh h1.lt (.inl rfl)).trans h1, (hk _ hh h2.lt (.inr rfl)).trans h2, h3, h4⟩
/-- nothing is remembered twice, and it all lies in the text -/
structure Tight (g : List Rl) (L : Nat) (σ : PS) : Prop where
  nodup : (σ.seen.map (·.1)).Nodup
  inn : ∀ k ∈ σ.seen.map (·.1), k.1 < g.length ∧ k.2 ≤ L
  log : σ.log = σ.seen.map fun x => (x.1.1, x.1.2, x.2)
theorem Tight.of_eq {g : List Rl} {L : Nat} {σ σ' : PS} (h : Tight g L σ) (hs : σ'.seen = σ.seen) (hl : σ'.log = σ.log) : Tight g L σ' := ⟨by rw [hs]; exact h.nodup, by rw [hs]; exact h.inn, by rw [hs, hl]; exact h.log⟩
theorem nodup_lt : ∀ (n : Nat) (l : List Nat), l.Nodup → (∀ x ∈ l, x < n) → l.length ≤ n := by
  intro n
  induction n with
  | zero =>
    intro l _ h
    cases l with
    | nil => simp
    | cons x l => exact absurd (h x (by simp)) (by omega)
  | succ n ih =>
    intro l hn h
    by_cases hm : n ∈ l
    · have h1 := ih (l.erase n) (hn.erase n) (fun x hx => by
        have h2 := (hn.mem_erase_iff).1 hx
        have h3 := h x h2.2
        have h4 := h2.1
        omega)
      rw [List.length_erase_of_mem hm] at h1
      omega
    · have := ih l hn (fun x hx => by
        have h3 := h x hx
        have : x ≠ n := fun e => hm (e ▸ hx)
        omega)
      omega
theorem Tight.len {g : List Rl} {L : Nat} {σ : PS} (h : Tight g L σ) : σ.seen.length ≤ g.length * (L + 1) := by
  have h1 := nodup_lt (g.length * (L + 1)) ((σ.seen.map (·.1)).map fun k => k.1 * (L + 1) + k.2) (by
    rw [List.nodup_iff_pairwise_ne, List.pairwise_map]
    refine List.Pairwise.imp_of_mem ?_ (List.nodup_iff_pairwise_ne.1 h.nodup)
    intro a b ha hb hab he
    have h2 := h.inn a ha
    have h3 := h.inn b hb
    apply hab
    have e1 : a.1 = b.1 := by
      have he' : a.1 * (L + 1) + a.2 = b.1 * (L + 1) + b.2 := he
      have : (a.1 * (L + 1) + a.2) / (L + 1) = (b.1 * (L + 1) + b.2) / (L + 1) := by rw [he']
      rw [Nat.mul_comm, Nat.mul_add_div (by omega), Nat.div_eq_of_lt (by omega), Nat.mul_comm, Nat.mul_add_div (by omega), Nat.div_eq_of_lt (by omega)] at this
      omega
    have e2 : a.2 = b.2 := by
      have he' : a.1 * (L + 1) + a.2 = b.1 * (L + 1) + b.2 := he
      rw [e1] at he'; omega
    exact Prod.ext e1 e2) (by
    intro x hx
    obtain ⟨k, hk, rfl⟩ := List.mem_map.1 hx
    have h2 := h.inn k hk
    have : k.1 * (L + 1) + (L + 1) ≤ g.length * (L + 1) := by rw [← Nat.succ_mul]; exact Nat.mul_le_mul_right _ h2.1
    omega)
  simpa using h1
theorem Tight.log_len {g : List Rl} {L : Nat} {σ : PS} (h : Tight g L σ) : σ.log.length = σ.seen.length := by rw [h.log]; simp
structure Par (c : PC) (w : World) (σ : PS) : Prop where
  par : ∃ lv, Blk w c.P 85 (parC c lv σ) ∧ w.ownsRow c.base 95 4 lv σ.log.length (σ.log.flatMap stepC)
  memo : Memo w c.M σ.seen
  first : ∀ i x, c.firsts[i]? = some x → w.cell? ⟨c.F, i, none⟩ = some (.int .i64 (x : Nat))
  size : c.base ≤ w.heap.size
  gram : GrIs w c.B c.g c.A c.cp c.row
  tight : Tight c.g c.s.data.toList.length σ
  marks : MkOk c w σ.marks

/-- all stands but the parser's own -/
structure Keeps (c : PC) (w w' : World) : Prop where
  os : w'.os = w.os
  tape : w'.tape = w.tape
  output : w'.output = w.output
  size : w.heap.size ≤ w'.heap.size
  blk : ∀ k, k < w.heap.size → k ≠ c.P → (k ≠ c.M ∧ k ≠ c.ob) → (k < c.base ∨ ∀ cs fr, w.heap[k]? ≠ some (.cells cs 95 fr)) → w'.heap[k]? = w.heap[k]?
section
variable {c : PC} {w w' w'' : World} {σ : PS}
theorem Keeps.refl (c : PC) (w : World) : Keeps c w w := ⟨rfl, rfl, rfl, Nat.le_refl _, fun _ _ _ _ _ => rfl⟩
theorem Keeps.trans (h : Keeps c w w') (h' : Keeps c w' w'') : Keeps c w w'' :=
  ⟨h'.os.trans h.os, h'.tape.trans h.tape, h'.output.trans h.output, Nat.le_trans h.size h'.size, fun k h1 h2 h3 h4 => by
    have e := h.blk k h1 h2 h3 h4
    rw [← e]
    refine h'.blk k (Nat.lt_of_lt_of_le h1 h.size) h2 h3 ?_
    rcases h4 with h4 | h4
    · exact .inl h4
    · exact .inr (by rw [e]; exact h4)⟩
theorem Keeps.of_below (h : Below w.heap.size w w') : Keeps c w w' := ⟨h.os, h.tape, h.output, h.size, fun k h1 _ _ _ => h.block k h1⟩
theorem Keeps.below (h : Keeps c w w') {B : Nat} (hB : B ≤ w.heap.size) (h1 : B ≤ c.P) (h2 : B ≤ c.M ∧ B ≤ c.ob) (h3 : B ≤ c.base) : Below B w w' :=
  ⟨h.os, h.tape, h.output, h.size, fun k hk => h.blk k (by omega) (by omega) (by omega) (.inl (by omega))⟩
theorem Keeps.box (h : Keeps c w w') {k : Nat} {t : TypeId} {cs : Array Value} (hb : Blk w k t cs) (ht : t ≠ 95) (h1 : k ≠ c.P) (h2 : k ≠ c.M ∧ k ≠ c.ob) : Blk w' k t cs :=
  (h.blk k hb.lt h1 h2 (.inr fun cs' fr e => by
    have hb' : w.heap[k]? = some (.cells cs t (0, 0)) := hb
    rw [hb'] at e
    injection e with e
    injection e with e1 e2 e3
    exact ht e2)).trans hb
theorem Keeps.alloc (h : Keeps c w w') (o : Obj) : Keeps c w (w'.alloc o) := h.trans (Keeps.of_below ((Below.refl _ _).alloc (Nat.le_refl _) o))
theorem Keeps.drew (h : Keeps c w w') : Keeps c w w'.drew := ⟨h.os, h.tape, h.output, h.size, h.blk⟩
theorem Par.below (h : Par c w σ) (hok : c.Ok) (hb : Below w.heap.size w w') : Par c w' σ := by
  obtain ⟨⟨lv, h1, h2⟩, h3, h4, h5, h6, h7, h8⟩ := h
  have hg : w.grownBy w' none := ⟨hb.os, hb.tape, hb.output, hb.size, fun k hk _ => hb.block k hk⟩
  exact ⟨⟨lv, h1.below hb h1.lt, h2.kept hg (by cases h : lv.ownBlock with
    | none => exact .inl rfl
    | some k => exact .inr (by simp))⟩, h3.kept hg (by simp), fun i x hi => (hb.cell (by have := hok.F; simp; omega)).trans (h4 i x hi), Nat.le_trans h5 hb.size, h6.on (hb.mono (by have := hok.Bb; omega)), h7, h8.keep fun k _ hk _ => hb.block k hk⟩
theorem Par.drew (h : Par c w σ) : Par c w.drew σ := ⟨h.par, h.memo, h.first, h.size, h.gram.on ((Below.refl _ _).drew), h.tight, h.marks.keep fun _ _ _ _ => rfl⟩
theorem Par.alloc (h : Par c w σ) (hok : c.Ok) (o : Obj) : Par c (w.alloc o) σ := h.below hok ((Below.refl _ _).alloc (Nat.le_refl _) o)
/-- a cell of the parser is set -/
theorem Par.set (h : Par c w σ) (hok : c.Ok) (i : Nat) (u : Value) {σ' : PS} (hs : ∀ lv, (parC c lv σ).setIfInBounds i u = parC c lv σ') (hl : σ'.log = σ.log) (hm : σ'.seen = σ.seen) (hmk : σ'.marks = σ.marks := by rfl) : Par c (w.setCell ⟨c.P, i, none⟩ u) σ' ∧ Keeps c w (w.setCell ⟨c.P, i, none⟩ u) := by
  obtain ⟨⟨lv, h1, h2⟩, h3, h4, h5, h6, h7, h8⟩ := h
  have hg : w.grownBy (w.setCell ⟨c.P, i, none⟩ u) (some c.P) := ⟨rfl, rfl, rfl, by simp [World.setCell], fun k hk hne => Below.heap_setCell w ⟨c.P, i, none⟩ u k (by rintro rfl; exact hne rfl)⟩
  have ho : lv.ownBlock = none ∨ lv.ownBlock ≠ some c.P := by
    cases hv : lv.ownBlock with
    | none => exact .inl rfl
    | some k => exact .inr (fun e => by injection e with e; have := (h2.lt k hv).1; have := hok.P; omega)
  refine ⟨⟨⟨lv, by rw [← hs lv]; exact h1.set_ i u, by rw [hl]; exact h2.kept hg ho⟩, by rw [hm]; exact h3.kept hg (fun e => hok.ne3.1 (by injection e)), fun j x hj => ?_, by simpa [World.setCell] using h5, h6.on ((Below.refl _ _).setCell hok.BP _), h7.of_eq hm hl, by rw [hmk]; exact h8.keep fun k hh _ hk => Below.heap_setCell w ⟨c.P, i, none⟩ u k (by have := hok.bx hh; have := hok.ne3; show k ≠ c.P; omega)⟩, ⟨rfl, rfl, rfl, by simp [World.setCell], fun k _ hk _ _ => Below.heap_setCell w ⟨c.P, i, none⟩ u k hk⟩⟩
  · rw [← h4 j x hj]
    exact World.cell?_of_block (Below.heap_setCell w ⟨c.P, i, none⟩ u c.F hok.ne1)
end
end Go.Proofs.Ytndhbdbfjkmloaa
namespace Go.Proofs.Ytndhbdbfjkmloaa
open Go.RowKit Go.Maps

theorem run_noset (w : World) : (Instr.build 24 #[]).run Try.prog w = .ok (.agg #[.int .u64 0, .int .u64 0, .int .u64 0, .int .u64 0]) w := by kernel_rfl

section
variable {c : PC} {w : World} {σ : PS}
theorem Par.c0 (h : Par c w σ) : w.cell? ⟨c.P, 0, none⟩ = some (.slice c.A c.n c.cp) := h.par.choose_spec.1.cell 0
theorem Par.c1 (h : Par c w σ) : w.cell? ⟨c.P, 1, none⟩ = some (.string c.s) := h.par.choose_spec.1.cell 1
theorem Par.c2 (h : Par c w σ) : w.cell? ⟨c.P, 2, none⟩ = some (.map (some c.M)) := h.par.choose_spec.1.cell 2
theorem Par.c4 (h : Par c w σ) : w.cell? ⟨c.P, 4, none⟩ = some (.int .i64 σ.far) := h.par.choose_spec.1.cell 4
theorem Par.c5 (h : Par c w σ) : w.cell? ⟨c.P, 5, none⟩ = some (.int .u64 σ.want.a) := h.par.choose_spec.1.cell 5
theorem Par.c6 (h : Par c w σ) : w.cell? ⟨c.P, 6, none⟩ = some (.int .u64 σ.want.b) := h.par.choose_spec.1.cell 6
theorem Par.c7 (h : Par c w σ) : w.cell? ⟨c.P, 7, none⟩ = some (.int .u64 σ.want.c) := h.par.choose_spec.1.cell 7
theorem Par.c8 (h : Par c w σ) : w.cell? ⟨c.P, 8, none⟩ = some (.int .u64 σ.want.d) := h.par.choose_spec.1.cell 8
theorem Par.c9 (h : Par c w σ) : w.cell? ⟨c.P, 9, none⟩ = some c.hook := h.par.choose_spec.1.cell 9
theorem Par.c10 (h : Par c w σ) : w.cell? ⟨c.P, 10, none⟩ = some (.slice (some ⟨c.F, 0, none⟩) c.n c.fcp) := h.par.choose_spec.1.cell 10
theorem Par.fr (h : Par c w σ) (i : Nat) : w.frozen? ⟨c.P, i, none⟩ = false := h.par.choose_spec.1.frozen i
theorem Par.setWant (h : Par c w σ) (hok : c.Ok) (y : S4) :
    Par c ((((w.setCell ⟨c.P, 5, none⟩ (.int .u64 y.a)).setCell ⟨c.P, 6, none⟩ (.int .u64 y.b)).setCell ⟨c.P, 7, none⟩ (.int .u64 y.c)).setCell ⟨c.P, 8, none⟩ (.int .u64 y.d)) { σ with want := y } ∧
    Keeps c w ((((w.setCell ⟨c.P, 5, none⟩ (.int .u64 y.a)).setCell ⟨c.P, 6, none⟩ (.int .u64 y.b)).setCell ⟨c.P, 7, none⟩ (.int .u64 y.c)).setCell ⟨c.P, 8, none⟩ (.int .u64 y.d)) := by
  obtain ⟨a1, b1⟩ := h.set hok 5 (.int .u64 y.a) (σ' := { σ with want := ⟨y.a, σ.want.b, σ.want.c, σ.want.d⟩ }) (fun _ => rfl) rfl rfl
  obtain ⟨a2, b2⟩ := a1.set hok 6 (.int .u64 y.b) (σ' := { σ with want := ⟨y.a, y.b, σ.want.c, σ.want.d⟩ }) (fun _ => rfl) rfl rfl
  obtain ⟨a3, b3⟩ := a2.set hok 7 (.int .u64 y.c) (σ' := { σ with want := ⟨y.a, y.b, y.c, σ.want.d⟩ }) (fun _ => rfl) rfl rfl
  obtain ⟨a4, b4⟩ := a3.set hok 8 (.int .u64 y.d) (σ' := { σ with want := y }) (fun _ => rfl) rfl rfl
  exact ⟨a4, b1.trans (b2.trans (b3.trans b4))⟩
end

set_option maxRecDepth 100000 in
set_option maxHeartbeats 4000000 in
theorem miss_any {c : PC} (hok : c.Ok) {σ : PS} (p : Nat) (x : S4) (w : World) (h : Par c w σ) :
    Calls Try.prog 71 #[.pointer (some ⟨c.P, 0, none⟩), .int .i64 p, .agg #[.int .u64 x.a, .int .u64 x.b, .int .u64 x.c, .int .u64 x.d]] w fun e w' => e = .returned (.tuple #[]) ∧ Par c w' (missS σ p x) ∧ Keeps c w w' := by
  have hj := fun (y : S4) (W : World) => join_any y x W
  unfold S4.val at hj
  have HJ := Lib.hid hj
  have hb0 : Blk (w.alloc (.cells #[.int .u64 x.a, .int .u64 x.b, .int .u64 x.c, .int .u64 x.d] 24)) w.heap.size 24 #[.int .u64 x.a, .int .u64 x.b, .int .u64 x.c, .int .u64 x.d] := blk_at rfl
  have hpar : Par c (w.alloc (.cells #[.int .u64 x.a, .int .u64 x.b, .int .u64 x.c, .int .u64 x.d] 24)) σ := h.alloc hok _
  have hkp : Keeps c w (w.alloc (.cells #[.int .u64 x.a, .int .u64 x.b, .int .u64 x.c, .int .u64 x.d] 24)) := (Keeps.refl c w).alloc _
  have hc4 := hpar.c4
  have hne : c.P < w.heap.size := by have := hok.P; have := h.size; omega
  have hrn := run_noset
  clear hj
  have htail : ∀ (W : World) (σ1 : PS), Par c W σ1 → Keeps c w W → Blk W w.heap.size 24 #[.int .u64 x.a, .int .u64 x.b, .int .u64 x.c, .int .u64 x.d] → True := fun _ _ _ _ _ => trivial
  by_cases h1 : σ.far < (p : Int)
  · have hm : missS σ p x = { σ with far := p, want := S4.map2 orU noS x } := by unfold missS; rw [if_pos h1]
    rw [hm]
    have f4 := h.fr 4
    have f5 := h.fr 5
    have f6 := h.fr 6
    have f7 := h.fr 7
    have f8 := h.fr 8
    have s4 := h.c4
    have s5 := h.c5
    have s6 := h.c6
    have s7 := h.c7
    have s8 := h.c8
    have h4 := h.set hok 4 (.int .i64 p) (σ' := { σ with far := p }) (fun _ => rfl) rfl rfl
    have h5 := h4.1.setWant hok noS
    have HP := Lib.hid h5.1
    have HK := Lib.hid (h4.2.trans h5.2)
    clear h4 h5
    go_enter Try.func71, Try.ntmps71
    go_wp2_with fail
    refine wp_region_t (fun W => Par c W { σ with far := p, want := noS } ∧ Keeps c w W ∧ Blk W w.heap.size 24 #[.int .u64 x.a, .int .u64 x.b, .int .u64 x.c, .int .u64 x.d]) 9 (by kernel_rfl) (by kernel_rfl) ⟨(HP.out.alloc hok _).drew, (HK.out.alloc _).drew, (blk_at (by simp [World.setCell])).drew⟩ ?_
    simp only [List.take_succ_cons, List.take_zero]
    clear s4 s5 s6 s7 s8 f4 f5 f6 f7 f8
    repeat
      (first | ((with_reducible apply QW.free rfl); · (intro W hW; obtain ⟨q1, q2, q3⟩ := hW; have s5 := q1.c5; have s6 := q1.c6; have s7 := q1.c7; have s8 := q1.c8; have t0 := q3.cell 0; have t1 := q3.cell 1; have t2 := q3.cell 2; have t3 := q3.cell 3; go_simp; first | rfl | (go_at_call 76; refine (HJ.out noS _).mono ?_; exact fun e w' h => ⟨h.1, q1.below hok h.2, q2.trans (Keeps.of_below h.2), q3.below h.2 q3.lt⟩))) | ((with_reducible apply QW.skip rfl); · (first | exact ⟨_, _, rfl, rfl, .inl rfl⟩ | exact ⟨_, _, rfl, rfl, .inr rfl⟩)) | ((with_reducible apply QW.take rfl); (· exact ⟨_, rfl, rfl⟩); (· (intro W hW; obtain ⟨q1, q2, q3⟩ := hW; have s5 := q1.c5; have s6 := q1.c6; have s7 := q1.c7; have s8 := q1.c8; have t0 := q3.cell 0; have t1 := q3.cell 1; have t2 := q3.cell 2; have t3 := q3.cell 3; go_simp; first | rfl | (go_at_call 76; refine (HJ.out noS _).mono ?_; exact fun e w' h => ⟨h.1, q1.below hok h.2, q2.trans (Keeps.of_below h.2), q3.below h.2 q3.lt⟩))))); (try simp only [Act.put, List.setIfInBounds_toArray, List.set_cons_zero, List.set_cons_succ])
    refine QW.nil ?_
    rintro w1 ⟨q1, q2, q3⟩
    have s5 := q1.c5
    have s6 := q1.c6
    have s7 := q1.c7
    have s8 := q1.c8
    have f5 := q1.fr 5
    have f6 := q1.fr 6
    have f7 := q1.fr 7
    have f8 := q1.fr 8
    simp only [List.drop]
    go_wp2
    go_end0
    exact ⟨rfl, (q1.setWant hok (S4.map2 orU noS x)).1, q2.trans (q1.setWant hok (S4.map2 orU noS x)).2⟩
  · by_cases h2 : (p : Int) = σ.far
    · have hm : missS σ p x = { σ with want := S4.map2 orU σ.want x } := by unfold missS; rw [if_neg h1, if_pos h2]
      rw [hm]
      go_enter Try.func71, Try.ntmps71
      go_wp2_with fail
      refine wp_region_t (fun W => Par c W σ ∧ Keeps c w W ∧ Blk W w.heap.size 24 #[.int .u64 x.a, .int .u64 x.b, .int .u64 x.c, .int .u64 x.d]) 9 (by kernel_rfl) (by kernel_rfl) ⟨hpar.drew, hkp.drew, hb0.drew⟩ ?_
      simp only [List.take_succ_cons, List.take_zero]
      repeat
        (first | ((with_reducible apply QW.free rfl); · (intro W hW; obtain ⟨q1, q2, q3⟩ := hW; have s5 := q1.c5; have s6 := q1.c6; have s7 := q1.c7; have s8 := q1.c8; have t0 := q3.cell 0; have t1 := q3.cell 1; have t2 := q3.cell 2; have t3 := q3.cell 3; go_simp; first | rfl | (go_at_call 76; refine (HJ.out σ.want _).mono ?_; exact fun e w' h => ⟨h.1, q1.below hok h.2, q2.trans (Keeps.of_below h.2), q3.below h.2 q3.lt⟩))) | ((with_reducible apply QW.skip rfl); · (first | exact ⟨_, _, rfl, rfl, .inl rfl⟩ | exact ⟨_, _, rfl, rfl, .inr rfl⟩)) | ((with_reducible apply QW.take rfl); (· exact ⟨_, rfl, rfl⟩); (· (intro W hW; obtain ⟨q1, q2, q3⟩ := hW; have s5 := q1.c5; have s6 := q1.c6; have s7 := q1.c7; have s8 := q1.c8; have t0 := q3.cell 0; have t1 := q3.cell 1; have t2 := q3.cell 2; have t3 := q3.cell 3; go_simp; first | rfl | (go_at_call 76; refine (HJ.out σ.want _).mono ?_; exact fun e w' h => ⟨h.1, q1.below hok h.2, q2.trans (Keeps.of_below h.2), q3.below h.2 q3.lt⟩))))); (try simp only [Act.put, List.setIfInBounds_toArray, List.set_cons_zero, List.set_cons_succ])
      refine QW.nil ?_
      rintro w1 ⟨q1, q2, q3⟩
      have s5 := q1.c5
      have s6 := q1.c6
      have s7 := q1.c7
      have s8 := q1.c8
      have f5 := q1.fr 5
      have f6 := q1.fr 6
      have f7 := q1.fr 7
      have f8 := q1.fr 8
      simp only [List.drop]
      go_wp2
      go_end0
      exact ⟨rfl, (q1.setWant hok (S4.map2 orU σ.want x)).1, q2.trans (q1.setWant hok (S4.map2 orU σ.want x)).2⟩
    · have hm : missS σ p x = σ := by unfold missS; rw [if_neg h1, if_neg h2]
      rw [hm]
      go_enter Try.func71, Try.ntmps71
      go_wp2
      go_end0
      exact ⟨rfl, hpar, hkp⟩
end Go.Proofs.Ytndhbdbfjkmloaa
namespace Go.Proofs.Ytndhbdbfjkmloaa

def Bound (L : Nat) (σ : PS) : Prop := ∀ i p n, recall σ.seen (i, p) = some (some n) → p ≤ L → p + n ≤ L
theorem Bound.of_eq {L : Nat} {σ σ1 : PS} (h : Bound L σ) (he : σ1.seen = σ.seen) : Bound L σ1 := fun i p n hh => h i p n (by rw [← he]; exact hh)
theorem pk_bound (g : List Rl) (s : List UInt8) (hook : Bool) : ∀ m j p σ o σ1, pk g s hook m j p σ = some (o, σ1) → p ≤ s.length → Bound s.length σ → (∀ to, o = some to → to ≤ s.length) ∧ Bound s.length σ1 := by
  intro m
  induction m with
  | zero => intro j p σ o σ1 h; cases h
  | succ m ih =>
    intro j p σ o σ1 h hp hB
    cases j with
    | try_ e n =>
      simp only [pk] at h
      cases he : pk g s hook m (.node e n) p σ with
      | none => rw [he] at h; cases h
      | some x =>
        obtain ⟨o', σ'⟩ := x
        rw [he] at h
        simp only [Option.some.injEq, Prod.mk.injEq] at h
        obtain ⟨rfl, rfl⟩ := h
        obtain ⟨h1, h2⟩ := ih _ _ _ _ _ he hp hB
        exact ⟨h1, h2.of_eq (markS_seen _ _ _)⟩
    | rule i =>
      simp only [pk] at h
      cases hs : recall σ.seen (i, p) with
      | some o' =>
        rw [hs] at h
        simp only [Option.some.injEq, Prod.mk.injEq] at h
        obtain ⟨rfl, rfl⟩ := h
        refine ⟨fun to ht => ?_, hB⟩
        cases o' with
        | none => cases ht
        | some k => injection ht with ht; subst ht; exact hB i p k hs hp
      | none =>
        rw [hs] at h
        simp only at h
        cases hg : g[i]? with
        | none => rw [hg] at h; cases h
        | some r =>
          rw [hg] at h
          simp only at h
          cases he : pk g s hook m (.try_ r.2 (firstN g i)) p σ with
          | none => rw [he] at h; cases h
          | some x =>
            obtain ⟨o', σ'⟩ := x
            rw [he] at h
            simp only at h
            split at h
            · cases h
            · simp only [Option.some.injEq, Prod.mk.injEq] at h
              obtain ⟨rfl, rfl⟩ := h
              obtain ⟨h1, h2⟩ := ih _ _ _ _ _ he hp hB
              refine ⟨h1, fun j q n hh hq => ?_⟩
              rw [recall_app] at hh
              split at hh
              · exact h2 j q n hh hq
              · split at hh
                · rename_i hk
                  injection hk with hk1 hk2
                  subst hk1 hk2
                  injection hh with hh
                  cases o' with
                  | none => cases hh
                  | some to =>
                    have := h1 to rfl
                    injection hh with hh
                    have hh' : to - p = n := hh
                    omega
                · cases hh
    | seq es n =>
      cases es with
      | nil =>
        simp only [pk, Option.some.injEq, Prod.mk.injEq] at h
        obtain ⟨rfl, rfl⟩ := h
        exact ⟨fun to ht => by injection ht with ht; omega, hB⟩
      | cons e es =>
        simp only [pk] at h
        cases he : pk g s hook m (.try_ e n) p σ with
        | none => rw [he] at h; cases h
        | some x =>
          obtain ⟨o', σ'⟩ := x
          rw [he] at h
          obtain ⟨h1, h2⟩ := ih _ _ _ _ _ he hp hB
          cases o' with
          | none =>
            simp only [Option.some.injEq, Prod.mk.injEq] at h
            obtain ⟨rfl, rfl⟩ := h
            exact ⟨h1, h2⟩
          | some to => exact ih _ _ _ _ _ h (h1 to rfl) h2
    | alt es n =>
      cases es with
      | nil =>
        simp only [pk, Option.some.injEq, Prod.mk.injEq] at h
        obtain ⟨rfl, rfl⟩ := h
        exact ⟨fun to ht => (by cases ht), hB⟩
      | cons e es =>
        simp only [pk] at h
        cases he : pk g s hook m (.try_ e n) p σ with
        | none => rw [he] at h; cases h
        | some x =>
          obtain ⟨o', σ'⟩ := x
          rw [he] at h
          obtain ⟨h1, h2⟩ := ih _ _ _ _ _ he hp hB
          cases o' with
          | some to =>
            simp only [Option.some.injEq, Prod.mk.injEq] at h
            obtain ⟨rfl, rfl⟩ := h
            exact ⟨h1, h2⟩
          | none => exact ih _ _ _ _ _ h hp h2
    | rep e n =>
      simp only [pk] at h
      cases he : pk g s hook m (.try_ e n) p σ with
      | none => rw [he] at h; cases h
      | some x =>
        obtain ⟨o', σ'⟩ := x
        rw [he] at h
        obtain ⟨h1, h2⟩ := ih _ _ _ _ _ he hp hB
        cases o' with
        | none =>
          simp only [Option.some.injEq, Prod.mk.injEq] at h
          obtain ⟨rfl, rfl⟩ := h
          exact ⟨fun to ht => by injection ht with ht; omega, h2⟩
        | some to => exact ih _ _ _ _ _ h (h1 to rfl) h2
    | one k e n =>
      simp only [pk] at h
      cases he : pk g s hook m (.try_ e (n + 1)) p σ with
      | none => rw [he] at h; cases h
      | some x =>
        obtain ⟨o', σ'⟩ := x
        rw [he] at h
        obtain ⟨h1, h2⟩ := ih _ _ _ _ _ he hp hB
        cases o' with
        | none =>
          simp only [Option.some.injEq, Prod.mk.injEq] at h
          obtain ⟨rfl, rfl⟩ := h
          refine ⟨fun to ht => ?_, h2⟩
          split at ht
          · cases ht
          · injection ht with ht; omega
        | some to =>
          simp only at h
          split at h
          · simp only [Option.some.injEq, Prod.mk.injEq] at h
            obtain ⟨rfl, rfl⟩ := h
            exact ⟨fun to ht => by injection ht with ht; omega, h2⟩
          · split at h
            · simp only [Option.some.injEq, Prod.mk.injEq] at h
              obtain ⟨rfl, rfl⟩ := h
              exact ⟨fun to ht => (by cases ht), h2⟩
            · split at h
              · simp only [Option.some.injEq, Prod.mk.injEq] at h
                obtain ⟨rfl, rfl⟩ := h
                exact ⟨h1, h2⟩
              · exact ih _ _ _ _ _ h (h1 to rfl) h2
    | node e n =>
      obtain ⟨k, a, b, c, d, t, ks⟩ := e
      rw [pk_node] at h
      split at h
      · simp only [Option.some.injEq, Prod.mk.injEq] at h
        obtain ⟨rfl, rfl⟩ := h
        exact ⟨fun to ht => by injection ht with ht; omega, hB⟩
      split at h
      · split at h
        · rename_i hc
          simp only [Option.some.injEq, Prod.mk.injEq] at h
          obtain ⟨rfl, rfl⟩ := h
          exact ⟨fun to ht => by injection ht with ht; omega, hB⟩
        · simp only [Option.some.injEq, Prod.mk.injEq] at h
          obtain ⟨rfl, rfl⟩ := h
          exact ⟨fun to ht => (by cases ht), hB.of_eq (missS_seen _ _ _)⟩
      split at h
      · split at h
        · rename_i hc
          simp only [Option.some.injEq, Prod.mk.injEq] at h
          obtain ⟨rfl, rfl⟩ := h
          have := litAt_le hc hp
          exact ⟨fun to ht => by injection ht with ht; subst ht; simpa using this, hB⟩
        · simp only [Option.some.injEq, Prod.mk.injEq] at h
          obtain ⟨rfl, rfl⟩ := h
          exact ⟨fun to ht => (by cases ht), hB.of_eq (missS_seen _ _ _)⟩
      split at h
      · exact ih _ _ _ _ _ h hp hB
      split at h
      · exact ih _ _ _ _ _ h hp hB
      split at h
      · exact ih _ _ _ _ _ h hp hB
      cases ks with
      | nil => cases h
      | cons e es => exact ih _ _ _ _ _ h hp hB
end Go.Proofs.Ytndhbdbfjkmloaa
namespace Go.Proofs.Ytndhbdbfjkmloaa
open Go.RowKit

def U64 (x : Int) : Prop := 0 ≤ x ∧ x < 18446744073709551616
theorem U64.nat {x : Int} (h : U64 x) : ∃ v : BitVec 64, x = (v.toNat : Int) := by
  obtain ⟨n, rfl⟩ := Int.eq_ofNat_of_zero_le h.1
  refine ⟨BitVec.ofNat 64 n, ?_⟩
  have := h.2
  rw [BitVec.toNat_ofNat, Nat.mod_eq_of_lt (by omega)]
theorem orU_bv (u v : BitVec 64) : orU (u.toNat : Int) (v.toNat : Int) = ((u ||| v).toNat : Int) := by
  unfold orU; rw [u64_or_nat _ _ u.isLt v.isLt, BitVec.toNat_or]
theorem andU_bv (u v : BitVec 64) : andU (u.toNat : Int) (v.toNat : Int) = ((u &&& v).toNat : Int) := by
  unfold andU; rw [u64_and_nat _ _ u.isLt v.isLt, BitVec.toNat_and]
theorem U64.or {x y : Int} (hx : U64 x) (hy : U64 y) : U64 (orU x y) := by
  obtain ⟨u, rfl⟩ := hx.nat; obtain ⟨v, rfl⟩ := hy.nat
  rw [orU_bv]; exact ⟨by omega, by have := (u ||| v).isLt; omega⟩
theorem U64.and {x y : Int} (hx : U64 x) (hy : U64 y) : U64 (andU x y) := by
  obtain ⟨u, rfl⟩ := hx.nat; obtain ⟨v, rfl⟩ := hy.nat
  rw [andU_bv]; exact ⟨by omega, by have := (u &&& v).isLt; omega⟩
end Go.Proofs.Ytndhbdbfjkmloaa
namespace Go.Proofs.Ytndhbdbfjkmloaa
open Go.ChangeShapes Go.WideShapes Go.ChangeAt Go.RowKit

theorem U64_of_wf {z : Int} (h : (Lit.int .u64 z).wf = true) : U64 z := by
  have : 0 ≤ z ∧ z ≤ 18446744073709551615 := by simpa [Lit.wf, IntKind.min, IntKind.max, IntKind.signed, IntKind.bits] using h
  exact ⟨this.1, by omega⟩

/-- four cells that read as a set -/
theorem trod_set {H : Type} {enc : TypeId × Value → H} {P : Program} {W : World} {base : Nat} {sp : Nat → Bool} {held : Bool} {t e : TypeId} {fuel : Nat} {cs : List Value} {x : DataW H × List MemPlace}
    (ht : P.underlying t = some (.array 4 e)) (he : P.underlying e = some (.int .u64)) (hc : P.cellsOf e = 1) (hct : P.cellsOf t = 4) (h : DataW.trod enc P W base sp held fuel t cs = some x) :
    ∃ a b c d, cs = [.int .u64 a, .int .u64 b, .int .u64 c, .int .u64 d] ∧ U64 a ∧ U64 b ∧ U64 c ∧ U64 d := by
  obtain ⟨xs, m, _, _, hl, hx, hi⟩ := DataW.trod_array ht h
  rw [hct] at hl
  match cs, hl with
  | [v0, v1, v2, v3], _ =>
    match xs, hx with
    | [y0, y1, y2, y3], _ =>
      have g0 := hi 0 (by omega)
      have g1 := hi 1 (by omega)
      have g2 := hi 2 (by omega)
      have g3 := hi 3 (by omega)
      rw [hc] at g0 g1 g2 g3
      obtain ⟨a, ha, _, wa⟩ := DataW.trod_int he g0
      obtain ⟨b, hb, _, wb⟩ := DataW.trod_int he g1
      obtain ⟨c, hc, _, wc⟩ := DataW.trod_int he g2
      obtain ⟨d, hd, _, wd⟩ := DataW.trod_int he g3
      simp at ha hb hc hd
      subst ha hb hc hd
      exact ⟨a, b, c, d, rfl, U64_of_wf wa, U64_of_wf wb, U64_of_wf wc, U64_of_wf wd⟩

end Go.Proofs.Ytndhbdbfjkmloaa
namespace Go.Proofs.Ytndhbdbfjkmloaa
open Go.ChangeShapes Go.WideShapes Go.ChangeAt Go.RowKit

theorem ex_fields : (Try.prog.underlying 27).map (fun u => match u with | .struct fs => fs.toList.map (fun f => (f.type, f.offset)) | _ => []) = some [(3, 0), (24, 1), (9, 5), (25, 6)] := by kernel_rfl
theorem ex_cells : Try.prog.cellsOf 27 = 7 := by kernel_rfl

theorem seven_of {cs : List Value} (h : cs.length = 7) : ∃ c0 c1 c2 c3 c4 c5 c6, cs = [c0, c1, c2, c3, c4, c5, c6] := by
  match cs, h with
  | [c0, c1, c2, c3, c4, c5, c6], _ => exact ⟨c0, c1, c2, c3, c4, c5, c6, rfl⟩
theorem eight_of {cs : List Value} (h : cs.length = 8) : ∃ c0 c1 c2 c3 c4 c5 c6 c7, cs = [c0, c1, c2, c3, c4, c5, c6, c7] := by
  match cs, h with
  | [c0, c1, c2, c3, c4, c5, c6, c7], _ => exact ⟨c0, c1, c2, c3, c4, c5, c6, c7, rfl⟩
theorem row_of {α : Type} [Inhabited α] {n : Nat} {p : Nat → α → Prop} (h : ∀ i, i < n → ∃ x, p i x) : ∃ f : Nat → α, ∀ i, i < n → p i (f i) := by
  have h' : ∀ i, ∃ x, i < n → p i x := fun i => by
    by_cases hi : i < n
    · obtain ⟨x, hx⟩ := h i hi
      exact ⟨x, fun _ => hx⟩
    · exact ⟨default, fun h => absurd h hi⟩
  exact ⟨fun i => (h' i).choose, fun i hi => (h' i).choose_spec hi⟩

end Go.Proofs.Ytndhbdbfjkmloaa
namespace Go.Proofs.Ytndhbdbfjkmloaa
open Go.ChangeShapes Go.WideShapes Go.ChangeAt Go.RowKit

/-- all numbers of an expression are of their width -/
inductive WfE : Ex → Prop
  | mk (k a b c d : Int) (t : ByteArray) (ks : List Ex) : I64 k → U64 a → U64 b → U64 c → U64 d → (∀ e ∈ ks, WfE e) → WfE (.mk k a b c d t ks)

set_option maxRecDepth 100000 in
theorem trod_exw {H : Type} {enc : TypeId × Value → H} {W : World} : ∀ (fuel : Nat) {cs : List Value} {x : DataW H × List MemPlace},
    DataW.trod enc Try.prog W 0 (fun _ => true) true fuel 27 cs = some x → ∃ e, ExIs W W.heap.size e cs ∧ WfE e := by
  intro fuel
  induction fuel using Nat.strongRecOn with
  | _ fuel ih =>
    intro cs x h
    obtain ⟨u, hu, hf⟩ := Option.map_eq_some_iff.1 ex_fields
    match u, hf with
    | .struct fs, hf =>
      obtain ⟨xs, n, rfl, _, hl, hlen, hget⟩ := DataW.trod_struct hu h
      rw [ex_cells] at hl
      have hf' : fs.toList.map (fun f => (f.type, f.offset)) = [(3, 0), (24, 1), (9, 5), (25, 6)] := hf
      have hfl : fs.toList.length = 4 := by have := congrArg List.length hf'; simpa using this
      have at_ : ∀ (i : Nat) (t o : Nat), [(3, 0), (24, 1), (9, 5), (25, 6)][i]? = some (t, o) → ∃ y, DataW.trod enc Try.prog W 0 (fun _ => true) true n t ((cs.drop o).take (Try.prog.cellsOf t)) = some y := by
        intro i t o hi
        rw [← hf', List.getElem?_map, Option.map_eq_some_iff] at hi
        obtain ⟨f, hf1, hf2⟩ := hi
        have hg := hget i f (by simpa using hf1)
        injection hf2 with e1 e2
        subst e1 e2
        have : i < xs.length := by
          have h3 := getElem?_lt hf1
          rw [hfl] at h3
          have h4 : fs.size = 4 := by simpa using hfl
          rw [hlen, h4]
          exact h3
        rw [List.getElem?_eq_getElem this] at hg
        exact ⟨_, hg⟩
      obtain ⟨y0, h0⟩ := at_ 0 _ _ rfl
      obtain ⟨y1, h1⟩ := at_ 1 _ _ rfl
      obtain ⟨y2, h2⟩ := at_ 2 _ _ rfl
      obtain ⟨y3, h3⟩ := at_ 3 _ _ rfl
      rw [show Try.prog.cellsOf 3 = 1 from by kernel_rfl] at h0
      rw [show Try.prog.cellsOf 24 = 4 from by kernel_rfl] at h1
      rw [show Try.prog.cellsOf 9 = 1 from by kernel_rfl] at h2
      rw [show Try.prog.cellsOf 25 = 1 from by kernel_rfl] at h3
      obtain ⟨k, e0, _, wk⟩ := DataW.trod_int Try.underlying3 h0
      obtain ⟨a, b, c, d, e1, wa, wb, wc, wd⟩ := trod_set Try.underlying24 Try.underlying22 (by kernel_rfl) (by kernel_rfl) h1
      obtain ⟨t, e2, _, wt⟩ := DataW.trod_string Try.underlying9 h2
      have wk' := I64_of_wf wk
      obtain ⟨c0, c1, c2, c3, c4, c5, c6, rfl⟩ := seven_of hl
      simp at e0 e1 e2
      subst e0 e2
      obtain ⟨rfl, rfl, rfl, rfl⟩ := e1
      rcases DataW.trod_slice Try.underlying25 h3 with ⟨e3, _⟩ | ⟨ad, len, cap, elems, rest, m, e4, e3, _, _, hlc, hcm, hel, hk, _⟩
      · simp at e3
        subst e3
        exact ⟨.mk k a b c d t [], .mk k a b c d t [] none 0 (fun _ => []) wt (by simp) (by unfold maxLen; omega) (fun _ => rfl) (fun h => by simp at h) (fun i e h => by simp at h) (fun i e ad h => by simp at h), .mk _ _ _ _ _ _ _ wk' wa wb wc wd (fun e he => by cases he)⟩
      · simp at e3
        subst e3
        have hk' : ∀ i, i < len → ∃ r : Ex × List Value, (ExIs W W.heap.size r.1 r.2 ∧ WfE r.1) ∧ ad.block < W.heap.size ∧ ∀ j u, r.2[j]? = some u → W.cell? ((ad.add (i * 7)).add j) = some u := by
          intro i hi
          have hg := hk i hi
          rw [List.getElem?_eq_getElem (by omega), ex_cells] at hg
          obtain ⟨ci, hc1, hc2⟩ := Option.bind_eq_some_iff.1 hg
          obtain ⟨e, he⟩ := ih m (by omega) hc2
          obtain ⟨_, hc3, hc4⟩ := World.cells?_some hc1
          have hb := World.block_lt_of_cell? W _ ((hc4 0 (by omega)).trans (List.getElem?_eq_getElem (by omega)))
          rw [add_block, add_block] at hb
          refine ⟨(e, ci), he, hb, fun j u hu => ?_⟩
          rw [hc4 j (by have := getElem?_lt hu; simp at this; omega)]
          exact hu
        obtain ⟨f, hf⟩ := @row_of (Ex × List Value) ⟨(.mk 0 0 0 0 0 ⟨#[]⟩ [], [])⟩ _ _ hk'
        have hlen' : ((List.range len).map fun i => (f i).1).length = len := by simp
        have hget : ∀ i e, ((List.range len).map fun i => (f i).1)[i]? = some e → i < len ∧ e = (f i).1 := by
          intro i e he
          have hi := getElem?_lt he
          rw [hlen'] at hi
          simp [hi] at he
          exact ⟨hi, he.symm⟩
        have hx := ExIs.mk (w := W) (B := W.heap.size) k a b c d t ((List.range len).map fun i => (f i).1) (some ad) cap (fun i => (f i).2) wt (by rw [hlen']; exact hlc) hcm (fun h => by cases h)
          (fun h => ⟨ad, rfl, (hf 0 (by rw [hlen'] at h; exact h)).2.1⟩) (fun i e he => by obtain ⟨hi, rfl⟩ := hget i e he; exact (hf i hi).1.1)
          (fun i e ad' he hA j u hu => by obtain ⟨hi, rfl⟩ := hget i e he; injection hA with hA; subst hA; exact (hf i hi).2.2 j u hu)
        rw [hlen'] at hx
        refine ⟨_, hx, .mk _ _ _ _ _ _ _ wk' wa wb wc wd fun e he => ?_⟩
        obtain ⟨i, hi⟩ := List.getElem?_of_mem he
        obtain ⟨hi', rfl⟩ := hget i e hi
        exact (hf i hi').1.2

theorem rule_fields : (Try.prog.underlying 87).map (fun u => match u with | .struct fs => fs.toList.map (fun f => (f.type, f.offset)) | _ => []) = some [(9, 0), (27, 1)] := by kernel_rfl
theorem rule_cells : Try.prog.cellsOf 87 = 8 := by kernel_rfl
theorem gram_fields : (Try.prog.underlying 35).map (fun u => match u with | .struct fs => fs.toList.map (fun f => (f.type, f.offset)) | _ => []) = some [(33, 0)] := by kernel_rfl
theorem gram_cells : Try.prog.cellsOf 35 = 1 := by kernel_rfl

set_option maxRecDepth 100000 in
theorem trod_rule {H : Type} {enc : TypeId × Value → H} {W : World} {fuel : Nat} {cs : List Value} {x : DataW H × List MemPlace}
    (h : DataW.trod enc Try.prog W 0 (fun _ => true) true fuel 87 cs = some x) : ∃ (r : Rl) (row : List Value), cs = .string r.1 :: row ∧ r.1.size ≤ maxLen ∧ ExIs W W.heap.size r.2 row ∧ WfE r.2 := by
  obtain ⟨u, hu, hf⟩ := Option.map_eq_some_iff.1 rule_fields
  match u, hf with
  | .struct fs, hf =>
    obtain ⟨xs, n, rfl, _, hl, hlen, hget⟩ := DataW.trod_struct hu h
    rw [rule_cells] at hl
    have hf' : fs.toList.map (fun f => (f.type, f.offset)) = [(9, 0), (27, 1)] := hf
    have hfl : fs.toList.length = 2 := by have := congrArg List.length hf'; simpa using this
    have at_ : ∀ (i : Nat) (t o : Nat), [(9, 0), (27, 1)][i]? = some (t, o) → ∃ y, DataW.trod enc Try.prog W 0 (fun _ => true) true n t ((cs.drop o).take (Try.prog.cellsOf t)) = some y := by
      intro i t o hi
      rw [← hf', List.getElem?_map, Option.map_eq_some_iff] at hi
      obtain ⟨f, hf1, hf2⟩ := hi
      have hg := hget i f (by simpa using hf1)
      injection hf2 with e1 e2
      subst e1 e2
      have : i < xs.length := by
        have h3 := getElem?_lt hf1
        rw [hfl] at h3
        have h4 : fs.size = 2 := by simpa using hfl
        rw [hlen, h4]
        exact h3
      rw [List.getElem?_eq_getElem this] at hg
      exact ⟨_, hg⟩
    obtain ⟨y0, h0⟩ := at_ 0 _ _ rfl
    obtain ⟨y1, h1⟩ := at_ 1 _ _ rfl
    rw [show Try.prog.cellsOf 9 = 1 from by kernel_rfl] at h0
    rw [ex_cells] at h1
    obtain ⟨s, e0, _, wt⟩ := DataW.trod_string Try.underlying9 h0
    obtain ⟨e, he, hw⟩ := trod_exw _ h1
    obtain ⟨c0, c1, c2, c3, c4, c5, c6, c7, rfl⟩ := eight_of hl
    simp at e0
    subst e0
    exact ⟨(s, e), _, rfl, wt, he, hw⟩
set_option maxRecDepth 100000 in
theorem open_gram {H : Type} {enc : TypeId × Value → H} {W : World} {v : Value} {d : DataW H} {p : List MemPlace} (hv : ∃ cs, v = .agg cs ∧ cs.size = Try.prog.cellsOf 35)
    (h : DataW.Trod enc Try.prog W 0 (fun _ => true) true 35 v d p) :
    ∃ (g : List Rl) (A : Option Addr) (cp : Nat) (row : Nat → List Value), v = .agg #[.slice A g.length cp] ∧ GrIs W W.heap.size g A cp row ∧ ∀ r ∈ g, WfE r.2 := by
  obtain ⟨ca, rfl, hsize⟩ := hv
  obtain ⟨fuel, h⟩ := h
  obtain ⟨u, hu, hf⟩ := Option.map_eq_some_iff.1 gram_fields
  match u, hf with
  | .struct fs, hf =>
    obtain ⟨xs, n, rfl, _, hl, hlen, hget⟩ := DataW.trod_struct hu h
    rw [gram_cells] at hl hsize
    have hf' : fs.toList.map (fun f => (f.type, f.offset)) = [(33, 0)] := hf
    have hfl : fs.toList.length = 1 := by have := congrArg List.length hf'; simpa using this
    match hfs : fs.toList, hf', hfl with
    | [f], hf', hfl =>
      simp only [List.map_cons, List.map_nil, List.cons.injEq, Prod.mk.injEq, and_true] at hf'
      have hg := hget 0 f (by
        have : fs.toList[0]? = some f := by rw [hfs]; rfl
        simpa using this)
      have hfsz : fs.size = 1 := by have := congrArg List.length hfs; simpa using this
      have : 0 < xs.length := by rw [hlen, hfsz]; omega
      rw [List.getElem?_eq_getElem this, hf'.1, hf'.2] at hg
      rw [show Try.prog.cellsOf 33 = 1 from by kernel_rfl] at hg
      have hcs : ∃ c0, ca = #[c0] := by
        match ca, hsize with
        | ⟨[c0]⟩, _ => exact ⟨c0, rfl⟩
      obtain ⟨c0, rfl⟩ := hcs
      have hcl : (Value.agg #[c0]).cells.toList = [c0] := rfl
      rw [hcl] at hg
      rcases DataW.trod_slice Try.underlying33 hg with ⟨e3, _⟩ | ⟨ad, len, cap, elems, rest, m, e4, e3, _, _, hlc, hcm, hel, hk, _⟩
      · simp at e3
        subst e3
        exact ⟨[], none, 0, fun _ => [], rfl, ⟨by simp, by unfold maxLen; omega, fun _ => rfl, fun h => by simp at h, fun i r h => by simp at h, fun i r h => by simp at h, fun i r ad h => by simp at h, fun i r ad h => by simp at h⟩, fun r h => by cases h⟩
      · simp at e3
        subst e3
        have hk' : ∀ i, i < len → ∃ r : Rl × List Value, (r.1.1.size ≤ maxLen ∧ ExIs W W.heap.size r.1.2 r.2 ∧ WfE r.1.2) ∧ ad.block < W.heap.size ∧ W.cell? (ad.add (i * 8)) = some (.string r.1.1) ∧ ∀ j u, r.2[j]? = some u → W.cell? ((ad.add (i * 8)).add (j + 1)) = some u := by
          intro i hi
          have hg := hk i hi
          rw [List.getElem?_eq_getElem (by omega), rule_cells] at hg
          obtain ⟨ci, hc1, hc2⟩ := Option.bind_eq_some_iff.1 hg
          obtain ⟨r, row, rfl, he⟩ := trod_rule hc2
          obtain ⟨hcl, hc3, hc4⟩ := World.cells?_some hc1
          have hb := World.block_lt_of_cell? W _ ((hc4 0 (by omega)).trans (List.getElem?_eq_getElem (by simp)))
          rw [add_block, add_block] at hb
          refine ⟨(r, row), he, hb, (hc4 0 (by omega)).trans rfl, fun j u hu => ?_⟩
          have h8 : row.length = 7 := by simpa using hc3
          rw [hc4 (j + 1) (by have : j < row.length := getElem?_lt hu; omega)]
          exact hu
        obtain ⟨f, hf⟩ := @row_of (Rl × List Value) ⟨((⟨#[]⟩, .mk 0 0 0 0 0 ⟨#[]⟩ []), [])⟩ _ _ hk'
        have hlen' : ((List.range len).map fun i => (f i).1).length = len := by simp
        have hget : ∀ i e, ((List.range len).map fun i => (f i).1)[i]? = some e → i < len ∧ e = (f i).1 := by
          intro i e he
          have hi := getElem?_lt he
          rw [hlen'] at hi
          simp [hi] at he
          exact ⟨hi, he.symm⟩
        refine ⟨(List.range len).map fun i => (f i).1, some ad, cap, fun i => (f i).2, by rw [hlen'], ⟨by rw [hlen']; exact hlc, hcm, fun h => (by cases h), fun h => ⟨ad, rfl, (hf 0 (by rw [hlen'] at h; exact h)).2.1⟩, fun i r hr => ?_, fun i r hr => ?_, fun i r ad' hr hA => ?_, fun i r ad' hr hA j u hu => ?_⟩, fun r hr => ?_⟩
        · obtain ⟨hi, rfl⟩ := hget i r hr; exact (hf i hi).1.1
        · obtain ⟨hi, rfl⟩ := hget i r hr; exact (hf i hi).1.2.1
        · obtain ⟨hi, rfl⟩ := hget i r hr; injection hA with hA; subst hA; exact (hf i hi).2.2.1
        · obtain ⟨hi, rfl⟩ := hget i r hr; injection hA with hA; subst hA; exact (hf i hi).2.2.2 j u hu
        · obtain ⟨i, hi⟩ := List.getElem?_of_mem hr
          obtain ⟨hi', rfl⟩ := hget i r hi
          exact (hf i hi').1.2.2
end Go.Proofs.Ytndhbdbfjkmloaa
namespace Go.Proofs.Ytndhbdbfjkmloaa
open Go.RowKit Go.Maps

/-- right, and its numbers of their width -/
def RtW (g : List Rl) (e : Ex) : Prop := Rt g e ∧ WfE e
/-- what is handed back: how far, and whether -/
def Ret (o : Option Nat) (e : Ending) : Prop := ∃ z : Int, e = .returned (.tuple #[.int .i64 z, .bool o.isSome]) ∧ ∀ to, o = some to → z = (to : Int)
def Went (c : PC) (w : World) (r : Option Nat × PS) (e : Ending) (w' : World) : Prop := Ret r.1 e ∧ Par c w' r.2 ∧ Keeps c w w'
/-- nodes do what the plain parser does, at this fuel -/
def DoesNode (c : PC) (g : List Rl) (m : Nat) : Prop := ∀ (e : Ex) (num p : Nat) (σ : PS) (r : Option Nat × PS) (cs : List Value) (w : World), pk g c.s.data.toList c.hk m (.node e num) p σ = some r → ExIs w c.B e cs → RtW g e → num + nodes e ≤ c.lim → p ≤ c.s.data.toList.length → Bound c.s.data.toList.length σ → Par c w σ →
  Calls Try.prog 50 #[.pointer (some ⟨c.P, 0, none⟩), .agg cs.toArray, .int .i64 num, .int .i64 p] w (Went c w r)
def DoesTry (c : PC) (g : List Rl) (m : Nat) : Prop := ∀ (e : Ex) (num p : Nat) (σ : PS) (r : Option Nat × PS) (cs : List Value) (w : World), pk g c.s.data.toList c.hk m (.try_ e num) p σ = some r → ExIs w c.B e cs → RtW g e → num + nodes e ≤ c.lim → p ≤ c.s.data.toList.length → Bound c.s.data.toList.length σ → Par c w σ →
  Calls Try.prog 35 #[.pointer (some ⟨c.P, 0, none⟩), .agg cs.toArray, .int .i64 num, .int .i64 p] w (Went c w r)

theorem run_nofn (w : World) : Sem.run Try.prog (binOp BinOp.neq 82 Value.nilFunc Value.nilFunc) w = .ok (.bool false) w := by kernel_rfl

set_option maxRecDepth 100000 in
set_option maxHeartbeats 4000000 in
theorem try_none {c : PC} (hok : c.Ok) (hh0 : c.hk = false) (hh : c.hook = .nilFunc) {g : List Rl} {m : Nat} (hN : DoesNode c g m) : DoesTry c g (m + 1) := by
  intro e num p σ r cs w hpk hE hR hnum hp hB h
  have hrf := run_nofn
  have hsz := h.size
  have hb1 := hok.Bb
  obtain ⟨k, a, b, d1, d2, t, A, n, cp, rfl⟩ := e.parts hE
  simp only [pk] at hpk
  cases hn : pk g c.s.data.toList c.hk m (.node e num) p σ with
  | none => rw [hn] at hpk; cases hpk
  | some r1 =>
    rw [hn] at hpk
    obtain ⟨o, σ1⟩ := r1
    have hr : r = (o, σ1) := by simp only [markS, hh0] at hpk; injection hpk with hpk; exact hpk.symm
    subst hr
    have hal : Below w.heap.size w (w.alloc (.cells #[.int .i64 k, .int .u64 a, .int .u64 b, .int .u64 d1, .int .u64 d2, .string t, .slice A n cp] 27)) := (Below.refl _ _).alloc (Nat.le_refl _) _
    have hcall := hN e num p σ (o, σ1) _ _ hn (hE.on (hal.mono (by omega))) hR hnum hp hB (h.below hok hal)
    have HC := Lib.hid hcall
    clear hcall hE hn
    go_enter Try.func35, Try.ntmps35
    go_wp2_with fail
    refine HC.out.mono ?_
    rintro e' w1 ⟨⟨z, rfl, hz⟩, h1, h2⟩
    have s9 : w1.cell? ⟨c.P, 9, none⟩ = some .nilFunc := by rw [← hh]; exact h1.c9
    go_wp2
    go_ret2
    exact ⟨⟨z, rfl, hz⟩, h1, (Keeps.of_below hal).trans h2⟩
def HookF (_ : PC) : Prop := False
theorem try_told {c : PC} (_ : c.Ok) (_ : c.hk = true) (hh : HookF c) {g : List Rl} {m : Nat} (_ : DoesNode c g m) : DoesTry c g (m + 1) := hh.elim
/-- no one is told, or cover's -/
def HookOk (c : PC) : Prop := (c.hk = false ∧ c.hook = .nilFunc) ∨ (c.hk = true ∧ HookF c)
theorem try_any {c : PC} (hok : c.Ok) (hh : HookOk c) {g : List Rl} {m : Nat} (hN : DoesNode c g m) : DoesTry c g (m + 1) := by
  rcases hh with hh | hh
  · exact try_none hok hh.1 hh.2 hN
  · exact try_told hok hh.1 hh.2 hN
theorem DoesTry.le {c : PC} {g : List Rl} {m m' : Nat} (h : DoesTry c g m) (hm : m' ≤ m) : DoesTry c g m' := fun e num p σ r cs w hpk => h e num p σ r cs w (pk_le hpk hm)
theorem DoesNode.le {c : PC} {g : List Rl} {m m' : Nat} (h : DoesNode c g m) (hm : m' ≤ m) : DoesNode c g m' := fun e num p σ r cs w hpk => h e num p σ r cs w (pk_le hpk hm)
end Go.Proofs.Ytndhbdbfjkmloaa
