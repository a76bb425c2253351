/- What well.of says, plain; facts in memory; the closure of well.of. -/
import Derived.Test.YtjmckmjngnmagaaWeA
namespace Go.Proofs.Ytjmckmjngnmagaa
open Go.RowKit

mutual
/-- what an expression may do, by what is known of the rules -/
def ofE (g : List Rl) (kn : List Fa) : Ex → Fa
  | .mk k a b c d t ks =>
    if k = 1 then ⟨true, false, false⟩
    else if k = 2 then ⟨false, !(a == 0 && (b == 0 && (c == 0 && d == 0))), true⟩
    else if k = 3 then ⟨false, true, true⟩
    else if k = 4 then kn.getD (fnd g t.data.toList).toNat ⟨false, false, false⟩
    else if k = 5 then seqF (ofEs g kn ks)
    else if k = 6 then altF (ofEs g kn ks)
    else if k = 7 then starF (kid0 (ofEs g kn ks))
    else if k = 8 then thenF (kid0 (ofEs g kn ks)) (starF (kid0 (ofEs g kn ks)))
    else if k = 9 then orF (kid0 (ofEs g kn ks)) ⟨true, false, false⟩
    else if k = 10 then ⟨(kid0 (ofEs g kn ks)).e || (kid0 (ofEs g kn ks)).a, false, (kid0 (ofEs g kn ks)).f⟩
    else ⟨(kid0 (ofEs g kn ks)).f, false, (kid0 (ofEs g kn ks)).e || (kid0 (ofEs g kn ks)).a⟩
def ofEs (g : List Rl) (kn : List Fa) : List Ex → List Fa
  | [] => []
  | e :: es => ofE g kn e :: ofEs g kn es
def kid0 : List Fa → Fa
  | [] => ⟨false, false, false⟩
  | x :: _ => x
def seqF : List Fa → Fa
  | [] => ⟨false, false, false⟩
  | x :: xs => xs.foldl thenF x
def altF : List Fa → Fa
  | [] => ⟨false, false, false⟩
  | [x] => x
  | x :: y :: xs => orF x (altF (y :: xs))
end
theorem ofEs_len (g : List Rl) (kn : List Fa) : ∀ ks : List Ex, (ofEs g kn ks).length = ks.length
  | [] => by simp [ofEs]
  | e :: es => by simp [ofEs, ofEs_len g kn es]
theorem ofEs_at (g : List Rl) (kn : List Fa) : ∀ (ks : List Ex) (i : Nat), (ofEs g kn ks)[i]? = (ks[i]?).map (ofE g kn)
  | [], i => by simp [ofEs]
  | e :: es, 0 => by simp [ofEs]
  | e :: es, i + 1 => by simp [ofEs, ofEs_at g kn es i]

/-- an expression that is right, all of whose names are known -/
inductive Rt (g : List Rl) : Ex → Prop
  | mk (k a b c d : Int) (t : ByteArray) (ks : List Ex) : fitB k a b c d t.data.toList ks.length = true → (k = 4 → 0 ≤ fnd g t.data.toList) → (∀ e ∈ ks, Rt g e) → Rt g (.mk k a b c d t ks)

/-! facts in memory -/
def facs (fs : List Fa) : List Value := fs.flatMap Fa.vals
theorem facs_get : ∀ (fs : List Fa) (i j : Nat) (x : Fa), fs[i]? = some x → j < 3 → (facs fs)[i * 3 + j]? = x.vals[j]?
  | [], i, j, x, h, _ => by simp at h
  | y :: fs, 0, j, x, h, hj => by
    simp at h
    subst h
    have : (y.vals ++ facs fs)[0 * 3 + j]? = y.vals[j]? := by rw [Nat.zero_mul, Nat.zero_add, List.getElem?_append_left (by simp [Fa.vals]; omega)]
    exact this
  | y :: fs, i + 1, j, x, h, hj => by
    have h1 := facs_get fs i j x (by simpa using h) hj
    have : (y.vals ++ facs fs)[(i + 1) * 3 + j]? = x.vals[j]? := by
      rw [List.getElem?_append_right (by simp [Fa.vals]; omega), ← h1]
      congr 1
      simp [Fa.vals]
      omega
    exact this
theorem facs_len (fs : List Fa) : (facs fs).length = fs.length * 3 := by
  induction fs with
  | nil => rfl
  | cons x fs ih =>
    show (x.vals ++ facs fs).length = _
    rw [List.length_append, ih]
    simp [Fa.vals]
    omega
structure Three (w : World) (p : Addr) (x : Fa) : Prop where
  c0 : w.cell? p = some (.bool x.e)
  c1 : w.cell? ⟨p.block, p.off + 1, none⟩ = some (.bool x.a)
  c2 : w.cell? ⟨p.block, p.off + 2, none⟩ = some (.bool x.f)
theorem Three.keep {w w' : World} {p : Addr} {x : Fa} (h : Three w p x) (hk : ∀ q : Addr, q.block = p.block → w'.cell? q = w.cell? q) : Three w' p x :=
  ⟨(hk _ rfl).trans h.c0, (hk ⟨p.block, p.off + 1, none⟩ rfl).trans h.c1, (hk ⟨p.block, p.off + 2, none⟩ rfl).trans h.c2⟩
theorem reads_fac {w : World} {B n i : Nat} {A : Option Addr} {fs : List Fa} (h : Reads w B 3 A n (facs fs)) (hi : i < n) :
    ∃ ad x, A = some ad ∧ ad.block < B ∧ fs[i]? = some x ∧ Three w (ad.add (i * 3)) x := by
  obtain ⟨ad, rfl, hb, hc⟩ := h.lies (by omega)
  have hlen : fs.length = n := by have := h.len; rw [facs_len] at this; omega
  have hx : fs[i]? = some fs[i] := List.getElem?_eq_getElem (by omega)
  generalize fs[i] = x at hx
  have h0 := hc _ _ (facs_get fs i 0 x hx (by omega))
  have h1 := hc _ _ (facs_get fs i 1 x hx (by omega))
  have h2 := hc _ _ (facs_get fs i 2 x hx (by omega))
  refine ⟨ad, x, rfl, hb, hx, by simpa using h0, ?_, ?_⟩
  · rw [← add_add'] at h1; exact h1
  · rw [← add_add'] at h2; exact h2

theorem Seven.keep {w w' : World} {p : Addr} {k a b c d : Int} {t : ByteArray} {A : Option Addr} {n cp : Nat} (h : Seven w p k a b c d t A n cp) (hk : ∀ q : Addr, q.block = p.block → w'.cell? q = w.cell? q) : Seven w' p k a b c d t A n cp :=
  ⟨(hk _ rfl).trans h.c0, (hk ⟨p.block, p.off + 1, none⟩ rfl).trans h.c1, (hk ⟨p.block, p.off + 2, none⟩ rfl).trans h.c2, (hk ⟨p.block, p.off + 3, none⟩ rfl).trans h.c3, (hk ⟨p.block, p.off + 4, none⟩ rfl).trans h.c4, (hk ⟨p.block, p.off + 5, none⟩ rfl).trans h.c5, (hk ⟨p.block, p.off + 6, none⟩ rfl).trans h.c6⟩
/-- what a call of well.of leaves -/
def OfQ (x : Fa) (w : World) (e : Ending) (w' : World) : Prop := e = .returned (.agg #[.bool x.e, .bool x.a, .bool x.f]) ∧ Below w.heap.size w w'

set_option maxRecDepth 100000 in
set_option maxHeartbeats 4000000 in
/-- the closure 'kid' of well.of, where well.of does what it must at the kids -/
theorem kid_any {g : List Rl} {kn : List Fa} {A FA KA : Option Addr} {cp fcp n kcp : Nat} {k a b c d : Int} {t : ByteArray} {ks : List Ex} {w : World} {b3 b4 b5 : Nat} (hB : ∀ (j : Nat) (k' a' b' c' d' : Int) (t' : ByteArray) (ks' : List Ex) (A' : Option Addr) (cp' : Nat) (W : World), Below w.heap.size w W → ks[j]? = some (.mk k' a' b' c' d' t' ks') →
      ExIs W w.heap.size (.mk k' a' b' c' d' t' ks') (exCells k' a' b' c' d' t' A' ks'.length cp') →
      Calls Try.prog 83 #[.agg #[.slice A g.length cp], .slice FA n fcp, .agg #[.int .i64 k', .int .u64 a', .int .u64 b', .int .u64 c', .int .u64 d', .string t', .slice A' ks'.length cp']] W (OfQ (ofE g kn (.mk k' a' b' c' d' t' ks')) W))
    (hE : ExIs w w.heap.size (.mk k a b c d t ks) (exCells k a b c d t KA ks.length kcp)) (W : World) (hW : Below w.heap.size w W) (h3 : Blk W b3 24 #[.slice A g.length cp]) (h4 : Blk W b4 39 #[.slice FA n fcp])
    (h5 : Blk W b5 35 #[.int .i64 k, .int .u64 a, .int .u64 b, .int .u64 c, .int .u64 d, .string t, .slice KA ks.length kcp]) (i : Nat) (x : Fa) (hi : (ofEs g kn ks)[i]? = some x) :
    Calls Try.prog 99 #[.int .i64 i, .pointer (some ⟨b3, 0, none⟩), .pointer (some ⟨b4, 0, none⟩), .pointer (some ⟨b5, 0, none⟩)] W (OfQ x W) := by
  have hm := hE.len.2.2.2.1
  have hkc := hE.len.2.2.1
  unfold maxLen at hm
  rw [ofEs_at, Option.map_eq_some_iff] at hi
  obtain ⟨ei, hei, rfl⟩ := hi
  have hik := getElem?_lt hei
  obtain ⟨ad, k', a', b', c', d', t', ks', A', cp', rfl, hab, hej, hE', hS⟩ := (hE.on hW).kid hik
  obtain rfl : ei = .mk k' a' b' c' d' t' ks' := by rw [hej] at hei; injection hei with hei; exact hei.symm
  have hcall := fun (W' : World) (h : Below W.heap.size W W') => hB i k' a' b' c' d' t' ks' A' cp' W' (hW.trans (h.mono hW.size)) hej (hE'.on (h.mono hW.size))
  have hwz := hW.size
  have HC := Lib.hid hcall
  have l3 := h3.lt
  have l4 := h4.lt
  have l5 := h5.lt
  clear hcall hB hej hE' hE hW hei
  generalize ofE g kn (.mk k' a' b' c' d' t' ks') = x at HC
  go_enter Try.func99, Try.ntmps99
  go_wp2_with fail
  have hcc : ∀ W', Below (W.heap.size + 1) (W.alloc (.cells #[.bool false, .bool false, .bool false] 43)) W' →
      W'.cell? ⟨b3, 0, none⟩ = some (.slice A g.length cp) ∧ W'.cell? ⟨b4, 0, none⟩ = some (.slice FA n fcp) ∧ W'.cell? ⟨b5, 6, none⟩ = some (.slice (some ad) ks.length kcp) ∧ Seven W' (ad.add (i * 7)) k' a' b' c' d' t' A' ks'.length cp' := fun W' hW' =>
    ⟨((h3.alloc _).below hW' (by omega)).cell 0, ((h4.alloc _).below hW' (by omega)).cell 0, ((h5.alloc _).below hW' (by omega)).cell 6, hS.keep fun p hp => (hW'.cell (by rw [hp, add_block]; omega)).trans (World.cell?_alloc_lt _ _ _ (by rw [hp, add_block]; omega))⟩
  have HCC := Lib.hid hcc
  clear hcc hS h3 h4 h5
  refine wp_region_tail (C := fun W' => Below (W.heap.size + 1) (W.alloc (.cells #[.bool false, .bool false, .bool false] 43)) W') 8 (by kernel_rfl) (by kernel_rfl) (Below.drew (Below.refl _ _)) ?_
  repeat
    (first | refine wpQuiet_no rfl ?_ | (apply wpQuiet_yes rfl; · (intro W hW; obtain ⟨q1, q2, q3, ⟨s0, s1, s2, s3, s4, s5, s6⟩⟩ := HCC.out W hW; go_simp; first | rfl | (go_at_call 83; refine (HC.out _ ((Below.alloc (Below.refl _ _) (Nat.le_refl _) _).trans (hW.mono (by omega)))).mono ?_; exact fun e w' h => ⟨h.1, hW.trans (h.2.mono (by have := hW.size; simp at this; omega))⟩)))); (try simp only [Act.put, List.setIfInBounds_toArray, List.set_cons_zero, List.set_cons_succ])
  refine wpQuiet_nil ?_
  intro w1 hw1
  have hbr : Blk w1 W.heap.size 43 #[.bool false, .bool false, .bool false] := (blk_at rfl).below hw1 (by omega)
  have z0 : w1.cell? ⟨W.heap.size, 0, none⟩ = some (.bool false) := hbr.cell 0; have z1 : w1.cell? ⟨W.heap.size, 1, none⟩ = some (.bool false) := hbr.cell 1; have z2 : w1.cell? ⟨W.heap.size, 2, none⟩ = some (.bool false) := hbr.cell 2; have f0 := hbr.frozen 0; have f1 := hbr.frozen 1; have f2 := hbr.frozen 2; have e0 : (w1.setCell ⟨W.heap.size, 0, none⟩ (.bool x.e)).cell? ⟨W.heap.size, 0, none⟩ = some (.bool x.e) := (hbr.set_ 0 _).cell 0; have e1 : ((w1.setCell ⟨W.heap.size, 0, none⟩ (.bool x.e)).setCell ⟨W.heap.size, 1, none⟩ (.bool x.a)).cell? ⟨W.heap.size, 1, none⟩ = some (.bool x.a) := ((hbr.set_ 0 _).set_ 1 _).cell 1; have e2 : (((w1.setCell ⟨W.heap.size, 0, none⟩ (.bool x.e)).setCell ⟨W.heap.size, 1, none⟩ (.bool x.a)).setCell ⟨W.heap.size, 2, none⟩ (.bool x.f)).cell? ⟨W.heap.size, 2, none⟩ = some (.bool x.f) := (((hbr.set_ 0 _).set_ 1 _).set_ 2 _).cell 2
  have hb1 : Below W.heap.size W w1 := ((Below.refl _ _).alloc (Nat.le_refl _) _).trans (hw1.mono (by omega))
  have hz := hb1.size
  clear hbr hw1
  simp only [List.drop]
  go_wp2
  exact bodyPost_ret (v := .agg #[.bool x.e, .bool x.a, .bool x.f]) (by simp [results, Try.results99, go_sem, e0, e1, e2]) rfl ⟨rfl, (by repeat (first | exact Below.refl _ _ | assumption | refine Below.drew ?_ | refine below_drewN ?_ _ | refine Below.alloc ?_ (by first | omega | (simp; omega) | simp) _ | refine Below.setCell ?_ (by first | omega | (simp; omega) | simp) _))⟩
end Go.Proofs.Ytjmckmjngnmagaa
