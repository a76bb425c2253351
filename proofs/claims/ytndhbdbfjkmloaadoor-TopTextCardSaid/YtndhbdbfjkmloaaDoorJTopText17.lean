/- What well.of says, plain; facts in memory; the closure of well.of. What is known grows till it is all there is; plain: rounds over a list, each entry by what is known of all. What is known of the rules grows: the order of facts, well.of rises with what is known; plain. What a grammar means: plain, by fuel. -/
import Derived.Test.YtndhbdbfjkmloaaDoorJTopText16
import Derived.Test.YtndhbdbfjkmloaaDoorJTopText0
namespace Go.Proofs.YtndhbdbfjkmloaaDoor
set_option maxHeartbeats 4000000
set_option maxRecDepth 100000
open Go.RowKit
mutual
def ofE (g : List Rl) (kn : List Fa) : Ex -> Fa
  | .mk k a b c d t ks =>
    if k = 1 then ⟨true, false, false⟩
    else if k = 2 then ⟨false, !(a == 0 && (b == 0 && (c == 0 && d == 0))), true⟩
    else if k = 3 then ⟨false, true, true⟩
    else if k = 4 then kn.getD (fnd g t.data.toList).toNat ⟨false, false, false⟩
    else if k = 5 then seqF (ofEs g kn ks)
    else if k = 6 then altF (ofEs g kn ks)
    else if k = 7 then starF (kid0 (ofEs g kn ks))
    else if k = 8 then thenF (kid0 (ofEs g kn ks)) (starF (kid0 (ofEs g kn ks)))
    else if k = 9 then orF (kid0 (ofEs g kn ks)) ⟨true, false, false⟩
    else if k = 10 then ⟨(kid0 (ofEs g kn ks)).e || (kid0 (ofEs g kn ks)).a, false, (kid0 (ofEs g kn ks)).f⟩
    else ⟨(kid0 (ofEs g kn ks)).f, false, (kid0 (ofEs g kn ks)).e || (kid0 (ofEs g kn ks)).a⟩
def ofEs (g : List Rl) (kn : List Fa) : List Ex -> List Fa
  | [] => []
  | e :: es => ofE g kn e :: ofEs g kn es
def kid0 : List Fa -> Fa
  | [] => ⟨false, false, false⟩
  | x :: _ => x
def seqF : List Fa -> Fa
  | [] => ⟨false, false, false⟩
  | x :: xs => xs.foldl thenF x
def altF : List Fa -> Fa
  | [] => ⟨false, false, false⟩
  | [x] => x
  | x :: y :: xs => orF x (altF (y :: xs))
end
theorem ofEs_len (g : List Rl) (kn : List Fa) : ∀ ks : List Ex, (ofEs g kn ks).length = ks.length
  | [] => by simp [ofEs]
  | e :: es => by simp [ofEs, ofEs_len g kn es]
theorem ofEs_at (g : List Rl) (kn : List Fa) : ∀ (ks : List Ex) (i : Nat), (ofEs g kn ks)[i]? = (ks[i]?).map (ofE g kn)
  | [], i => by simp [ofEs]
  | e :: es, 0 => by simp [ofEs]
  | e :: es, i + 1 => by simp [ofEs, ofEs_at g kn es i]
inductive Rt (g : List Rl) : Ex -> Prop
  | mk (k a b c d : Int) (t : ByteArray) (ks : List Ex) : fitB k a b c d t.data.toList ks.length = true -> (k = 4 -> 0 <= fnd g t.data.toList) -> (∀ e ∈ ks, Rt g e) -> Rt g (.mk k a b c d t ks)
def facs (fs : List Fa) : List Value := fs.flatMap Fa.vals
theorem facs_get : ∀ (fs : List Fa) (i j : Nat) (x : Fa), fs[i]? = some x -> j < 3 -> (facs fs)[i * 3 + j]? = x.vals[j]?
  | [], i, j, x, h, _ => by simp at h
  | y :: fs, 0, j, x, h, hj => by
    simp at h
    subst h
    have : (y.vals ++ facs fs)[0 * 3 + j]? = y.vals[j]? := by rw [Nat.zero_mul, Nat.zero_add, List.getElem?_append_left (by simp [Fa.vals]; omega)]
    exact this
  | y :: fs, i + 1, j, x, h, hj => by
    have h1 := facs_get fs i j x (by simpa using h) hj
    have : (y.vals ++ facs fs)[(i + 1) * 3 + j]? = x.vals[j]? := by
      rw [List.getElem?_append_right (by simp [Fa.vals]; omega), <- h1]
      congr 1
      simp [Fa.vals]
      omega
    exact this
theorem facs_len (fs : List Fa) : (facs fs).length = fs.length * 3 := by
  induction fs with
  | nil => rfl
  | cons x fs ih =>
    show (x.vals ++ facs fs).length = _
    rw [List.length_append, ih]
    simp [Fa.vals]
    omega
structure Three (w : World) (p : Addr) (x : Fa) : Prop where
  c0 : w.cell? p = some (.bool x.e)
  c1 : w.cell? ⟨p.block, p.off + 1, none⟩ = some (.bool x.a)
  c2 : w.cell? ⟨p.block, p.off + 2, none⟩ = some (.bool x.f)
theorem Three.keep {w w' : World} {p : Addr} {x : Fa} (h : Three w p x) (hk : ∀ q : Addr, q.block = p.block -> w'.cell? q = w.cell? q) : Three w' p x :=
  ⟨(hk _ rfl).trans h.c0, (hk ⟨p.block, p.off + 1, none⟩ rfl).trans h.c1, (hk ⟨p.block, p.off + 2, none⟩ rfl).trans h.c2⟩
theorem reads_fac {w : World} {B n i : Nat} {A : Option Addr} {fs : List Fa} (h : Reads w B 3 A n (facs fs)) (hi : i < n) :
    ∃ ad x, A = some ad /\ ad.block < B /\ fs[i]? = some x /\ Three w (ad.add (i * 3)) x := by
  obtain ⟨ad, rfl, hb, hc⟩ := h.lies (by omega)
  have hlen : fs.length = n := by have := h.len; rw [facs_len] at this; omega
  have hx : fs[i]? = some fs[i] := List.getElem?_eq_getElem (by omega)
  generalize fs[i] = x at hx
  have h0 := hc _ _ (facs_get fs i 0 x hx (by omega))
  have h1 := hc _ _ (facs_get fs i 1 x hx (by omega))
  have h2 := hc _ _ (facs_get fs i 2 x hx (by omega))
  refine ⟨ad, x, rfl, hb, hx, by simpa using h0, ?_, ?_⟩
  · rw [<- add_add'] at h1; exact h1
  · rw [<- add_add'] at h2; exact h2
theorem Seven.keep {w w' : World} {p : Addr} {k a b c d : Int} {t : ByteArray} {A : Option Addr} {n cp : Nat} (h : Seven w p k a b c d t A n cp) (hk : ∀ q : Addr, q.block = p.block -> w'.cell? q = w.cell? q) : Seven w' p k a b c d t A n cp :=
  ⟨(hk _ rfl).trans h.c0, (hk ⟨p.block, p.off + 1, none⟩ rfl).trans h.c1, (hk ⟨p.block, p.off + 2, none⟩ rfl).trans h.c2, (hk ⟨p.block, p.off + 3, none⟩ rfl).trans h.c3, (hk ⟨p.block, p.off + 4, none⟩ rfl).trans h.c4, (hk ⟨p.block, p.off + 5, none⟩ rfl).trans h.c5, (hk ⟨p.block, p.off + 6, none⟩ rfl).trans h.c6⟩
def OfQ (x : Fa) (w : World) (e : Ending) (w' : World) : Prop := e = .returned (.agg #[.bool x.e, .bool x.a, .bool x.f]) /\ Below w.heap.size w w'
theorem kid_any {g : List Rl} {kn : List Fa} {A FA KA : Option Addr} {cp fcp n kcp : Nat} {k a b c d : Int} {t : ByteArray} {ks : List Ex} {w : World} {b3 b4 b5 : Nat} (hB : ∀ (j : Nat) (k' a' b' c' d' : Int) (t' : ByteArray) (ks' : List Ex) (A' : Option Addr) (cp' : Nat) (W : World), Below w.heap.size w W -> ks[j]? = some (.mk k' a' b' c' d' t' ks') ->
      ExIs W w.heap.size (.mk k' a' b' c' d' t' ks') (exCells k' a' b' c' d' t' A' ks'.length cp') ->
      Calls Tryd.prog 81 #[.agg #[.slice A g.length cp], .slice FA n fcp, .agg #[.int .i64 k', .int .u64 a', .int .u64 b', .int .u64 c', .int .u64 d', .string t', .slice A' ks'.length cp']] W (OfQ (ofE g kn (.mk k' a' b' c' d' t' ks')) W))
    (hE : ExIs w w.heap.size (.mk k a b c d t ks) (exCells k a b c d t KA ks.length kcp)) (W : World) (hW : Below w.heap.size w W) (h3 : Blk W b3 39 #[.slice A g.length cp]) (h4 : Blk W b4 88 #[.slice FA n fcp])
    (h5 : Blk W b5 27 #[.int .i64 k, .int .u64 a, .int .u64 b, .int .u64 c, .int .u64 d, .string t, .slice KA ks.length kcp]) (i : Nat) (x : Fa) (hi : (ofEs g kn ks)[i]? = some x) :
    Calls Tryd.prog 106 #[.int .i64 i, .pointer (some ⟨b3, 0, none⟩), .pointer (some ⟨b4, 0, none⟩), .pointer (some ⟨b5, 0, none⟩)] W (OfQ x W) := by
  have hm := hE.len.2.2.2.1
  have hkc := hE.len.2.2.1
  unfold maxLen at hm
  rw [ofEs_at, Option.map_eq_some_iff] at hi
  obtain ⟨ei, hei, rfl⟩ := hi
  have hik := getElem?_lt hei
  obtain ⟨ad, k', a', b', c', d', t', ks', A', cp', rfl, hab, hej, hE', hS⟩ := (hE.on hW).kid hik
  obtain rfl : ei = .mk k' a' b' c' d' t' ks' := by rw [hej] at hei; injection hei with hei; exact hei.symm
  have hcall := fun (W' : World) (h : Below W.heap.size W W') => hB i k' a' b' c' d' t' ks' A' cp' W' (hW.trans (h.mono hW.size)) hej (hE'.on (h.mono hW.size))
  have hwz := hW.size
  have HC := Lib.hid hcall
  have l3 := h3.lt
  have l4 := h4.lt
  have l5 := h5.lt
  clear hcall hB hej hE' hE hW hei
  generalize ofE g kn (.mk k' a' b' c' d' t' ks') = x at HC
  go_enter Tryd.func106, Tryd.ntmps106
  go_wp2_with fail
  have hcc : ∀ W', Below (W.heap.size + 1) (W.alloc (.cells #[.bool false, .bool false, .bool false] 135)) W' ->
      W'.cell? ⟨b3, 0, none⟩ = some (.slice A g.length cp) /\ W'.cell? ⟨b4, 0, none⟩ = some (.slice FA n fcp) /\ W'.cell? ⟨b5, 6, none⟩ = some (.slice (some ad) ks.length kcp) /\ Seven W' (ad.add (i * 7)) k' a' b' c' d' t' A' ks'.length cp' := fun W' hW' =>
    ⟨((h3.alloc _).below hW' (by omega)).cell 0, ((h4.alloc _).below hW' (by omega)).cell 0, ((h5.alloc _).below hW' (by omega)).cell 6, hS.keep fun p hp => (hW'.cell (by rw [hp, add_block]; omega)).trans (World.cell?_alloc_lt _ _ _ (by rw [hp, add_block]; omega))⟩
  have HCC := Lib.hid hcc
  clear hcc hS h3 h4 h5
  refine wp_region_tail (C := fun W' => Below (W.heap.size + 1) (W.alloc (.cells #[.bool false, .bool false, .bool false] 135)) W') 8 (by kernel_rfl) (by kernel_rfl) (Below.drew (Below.refl _ _)) ?_
  repeat
    (first | refine wpQuiet_no rfl ?_ | (apply wpQuiet_yes rfl; · (intro W hW; obtain ⟨q1, q2, q3, ⟨s0, s1, s2, s3, s4, s5, s6⟩⟩ := HCC.out W hW; go_simp; first | rfl | (go_at_call 81; refine (HC.out _ ((Below.alloc (Below.refl _ _) (Nat.le_refl _) _).trans (hW.mono (by omega)))).mono ?_; exact fun e w' h => ⟨h.1, hW.trans (h.2.mono (by have := hW.size; simp at this; omega))⟩)))); (try simp only [Act.put, List.setIfInBounds_toArray, List.set_cons_zero, List.set_cons_succ])
  refine wpQuiet_nil ?_
  intro w1 hw1
  have hbr : Blk w1 W.heap.size 135 #[.bool false, .bool false, .bool false] := (blk_at rfl).below hw1 (by omega)
  have z0 : w1.cell? ⟨W.heap.size, 0, none⟩ = some (.bool false) := hbr.cell 0; have z1 : w1.cell? ⟨W.heap.size, 1, none⟩ = some (.bool false) := hbr.cell 1; have z2 : w1.cell? ⟨W.heap.size, 2, none⟩ = some (.bool false) := hbr.cell 2; have f0 := hbr.frozen 0; have f1 := hbr.frozen 1; have f2 := hbr.frozen 2; have e0 : (w1.setCell ⟨W.heap.size, 0, none⟩ (.bool x.e)).cell? ⟨W.heap.size, 0, none⟩ = some (.bool x.e) := (hbr.set_ 0 _).cell 0; have e1 : ((w1.setCell ⟨W.heap.size, 0, none⟩ (.bool x.e)).setCell ⟨W.heap.size, 1, none⟩ (.bool x.a)).cell? ⟨W.heap.size, 1, none⟩ = some (.bool x.a) := ((hbr.set_ 0 _).set_ 1 _).cell 1; have e2 : (((w1.setCell ⟨W.heap.size, 0, none⟩ (.bool x.e)).setCell ⟨W.heap.size, 1, none⟩ (.bool x.a)).setCell ⟨W.heap.size, 2, none⟩ (.bool x.f)).cell? ⟨W.heap.size, 2, none⟩ = some (.bool x.f) := (((hbr.set_ 0 _).set_ 1 _).set_ 2 _).cell 2
  have hb1 : Below W.heap.size W w1 := ((Below.refl _ _).alloc (Nat.le_refl _) _).trans (hw1.mono (by omega))
  have hz := hb1.size
  clear hbr hw1
  simp only [List.drop]
  go_wp2
  exact bodyPost_ret (v := .agg #[.bool x.e, .bool x.a, .bool x.f]) (by simp [results, Tryd.results106, go_sem, e0, e1, e2]) rfl ⟨rfl, bl⟩
end Go.Proofs.YtndhbdbfjkmloaaDoor
namespace Go.Proofs.YtndhbdbfjkmloaaDoor
set_option maxRecDepth 100000
structure Ord (T : Type) where
  le : T -> T -> Prop
  wt : T -> Nat
  refl : ∀ x, le x x
  trans : ∀ {x y z}, le x y -> le y z -> le x z
  lt : ∀ {x y}, le x y -> x ≠ y -> wt y < wt x
section
variable {T : Type}
def LeL (O : Ord T) (l m : List T) : Prop := l.length = m.length /\ ∀ (i : Nat) (x y : T), l[i]? = some x -> m[i]? = some y -> O.le x y
def Low (O : Ord T) (nx : List T -> Nat -> T) (kn : List T) : Prop := ∀ (i : Nat) (x : T), kn[i]? = some x -> O.le x (nx kn i)
def Mono (O : Ord T) (nx : List T -> Nat -> T) (n : Nat) : Prop := ∀ (l m : List T), l.length = n -> LeL O l m -> ∀ i, O.le (nx l i) (nx m i)
def wtL (O : Ord T) (l : List T) : Nat := (l.map O.wt).sum
theorem wtL_set (O : Ord T) : ∀ (l : List T) (i : Nat) (x y : T), l[i]? = some x -> O.wt y < O.wt x -> wtL O (l.set i y) < wtL O l
  | [], i, x, y, h, _ => by simp at h
  | z :: l, 0, x, y, h, hw => by
    simp at h
    subst h
    simp [wtL]
    exact hw
  | z :: l, i + 1, x, y, h, hw => by
    have := wtL_set O l i x y (by simpa using h) hw
    simp [wtL] at this ⊢
    exact this
theorem leL_set (O : Ord T) {l : List T} {i : Nat} {x y : T} (hx : l[i]? = some x) (h : O.le x y) : LeL O l (l.set i y) := by
  refine ⟨by simp, fun j u v hu hv => ?_⟩
  by_cases hij : i = j
  · subst hij
    rw [hx] at hu
    rw [List.getElem?_set_self (List.getElem?_eq_some_iff.1 hx).1] at hv
    injection hu with hu
    injection hv with hv
    rw [<- hu, <- hv]
    exact h
  · rw [List.getElem?_set_ne hij] at hv
    rw [hu] at hv
    injection hv with hv
    rw [<- hv]
    exact O.refl _
theorem LeL.refl (O : Ord T) (l : List T) : LeL O l l := ⟨rfl, fun i x y hx hy => by rw [hx] at hy; injection hy with hy; rw [hy]; exact O.refl _⟩
end
section
variable {T : Type} [DecidableEq T]
def roundG (nx : List T -> Nat -> T) : Nat -> Nat -> List T -> Bool -> List T × Bool
  | 0, _, kn, more => (kn, more)
  | m + 1, i, kn, more => if kn[i]? = some (nx kn i) then roundG nx m (i + 1) kn more else roundG nx m (i + 1) (kn.set i (nx kn i)) true
def growG (nx : List T -> Nat -> T) : Nat -> List T -> List T
  | 0, kn => kn
  | f + 1, kn => if (roundG nx kn.length 0 kn false).2 = true then growG nx f (roundG nx kn.length 0 kn false).1 else (roundG nx kn.length 0 kn false).1
omit [DecidableEq T] in
theorem low_step {O : Ord T} {nx : List T -> Nat -> T} {kn : List T} {i : Nat} (hm : Mono O nx kn.length) (hL : Low O nx kn) (hi : i < kn.length) (hne : kn[i]? ≠ some (nx kn i)) :
    Low O nx (kn.set i (nx kn i)) /\ wtL O (kn.set i (nx kn i)) < wtL O kn := by
  have hx : kn[i]? = some kn[i] := List.getElem?_eq_getElem hi
  generalize kn[i] = x at hx
  have hle := hL i x hx
  have hne' : x ≠ nx kn i := fun e => hne (by rw [hx, e])
  refine ⟨fun j u hu => ?_, wtL_set O kn i x _ hx (O.lt hle hne')⟩
  have h1 := hm kn _ rfl (leL_set O hx hle) j
  refine O.trans ?_ h1
  by_cases hij : i = j
  · subst hij
    rw [List.getElem?_set_self hi] at hu
    injection hu with hu
    rw [hu]
    exact O.refl _
  · rw [List.getElem?_set_ne hij] at hu
    exact hL j u hu
theorem round_keeps {nx : List T -> Nat -> T} {P : List T -> Prop} (hP : ∀ kn i, P kn -> i < kn.length -> kn[i]? ≠ some (nx kn i) -> P (kn.set i (nx kn i))) :
    ∀ (m i : Nat) (kn : List T) (more : Bool), i + m = kn.length -> P kn -> P (roundG nx m i kn more).1 /\ (roundG nx m i kn more).1.length = kn.length
  | 0, i, kn, more, _, h => ⟨h, rfl⟩
  | m + 1, i, kn, more, hi, h => by
    unfold roundG
    split
    · exact round_keeps hP m (i + 1) kn more (by omega) h
    · rename_i hne
      have := round_keeps hP m (i + 1) (kn.set i (nx kn i)) true (by simp; omega) (hP kn i h (by omega) hne)
      rw [List.length_set] at this
      exact this
theorem grow_keeps {nx : List T -> Nat -> T} {P : List T -> Prop} (hP : ∀ kn i, P kn -> i < kn.length -> kn[i]? ≠ some (nx kn i) -> P (kn.set i (nx kn i))) :
    ∀ (f : Nat) (kn : List T), P kn -> P (growG nx f kn) /\ (growG nx f kn).length = kn.length
  | 0, kn, h => ⟨h, rfl⟩
  | f + 1, kn, h => by
    have h1 := round_keeps hP kn.length 0 kn false (by omega) h
    unfold growG
    split
    · have := grow_keeps hP f _ h1.1
      exact ⟨this.1, this.2.trans h1.2⟩
    · exact h1
theorem round_still {nx : List T -> Nat -> T} : ∀ (m i : Nat) (kn : List T) (more : Bool), (roundG nx m i kn more).2 = false -> more = false /\ (roundG nx m i kn more).1 = kn /\ ∀ j, i <= j -> j < i + m -> kn[j]? = some (nx kn j)
  | 0, i, kn, more, h => ⟨h, rfl, fun j h1 h2 => by omega⟩
  | m + 1, i, kn, more, h => by
    unfold roundG at h ⊢
    split at h
    · rename_i he
      rw [if_pos he]
      obtain ⟨h1, h2, h3⟩ := round_still m (i + 1) kn more h
      refine ⟨h1, h2, fun j hj1 hj2 => ?_⟩
      by_cases hij : i = j
      · subst hij; exact he
      · exact h3 j (by omega) (by omega)
    · have := (round_still m (i + 1) (kn.set i (nx kn i)) true h).1
      cases this
theorem round_wt {O : Ord T} {nx : List T -> Nat -> T} {n : Nat} (hm : Mono O nx n) : ∀ (m i : Nat) (kn : List T) (more : Bool), kn.length = n -> i + m = n -> Low O nx kn ->
    wtL O (roundG nx m i kn more).1 <= wtL O kn /\ ((roundG nx m i kn more).2 = true -> more = true \/ wtL O (roundG nx m i kn more).1 < wtL O kn)
  | 0, i, kn, more, _, _, _ => ⟨Nat.le_refl _, fun h => .inl h⟩
  | m + 1, i, kn, more, hn, hi, hL => by
    unfold roundG
    split
    · exact round_wt hm m (i + 1) kn more hn (by omega) hL
    · rename_i hne
      obtain ⟨h1, h2⟩ := low_step (by rw [hn]; exact hm) hL (by omega) hne
      have h3 := round_wt hm m (i + 1) (kn.set i (nx kn i)) true (by simp; exact hn) (by omega) h1
      exact ⟨by omega, fun _ => .inr (by omega)⟩
theorem grow_fix {O : Ord T} {nx : List T -> Nat -> T} {n : Nat} (hm : Mono O nx n) : ∀ (f : Nat) (kn : List T), kn.length = n -> Low O nx kn -> wtL O kn < f -> ∀ j, j < n -> (growG nx f kn)[j]? = some (nx (growG nx f kn) j)
  | 0, kn, _, _, h => by omega
  | f + 1, kn, hn, hL, hw => fun j hj => by
    have hk := round_keeps (nx := nx) (P := fun l => l.length = n /\ Low O nx l) (fun l i h hi hne => ⟨by simp; exact h.1, (low_step (by rw [h.1]; exact hm) h.2 hi hne).1⟩) kn.length 0 kn false (by omega) ⟨hn, hL⟩
    have hr := round_wt hm kn.length 0 kn false hn (by omega) hL
    unfold growG
    split
    · rename_i h2
      rcases hr.2 h2 with h3 | h3
      · cases h3
      · exact grow_fix hm f _ hk.1.1 hk.1.2 (by omega) j hj
    · rename_i h2
      obtain ⟨_, h4, h5⟩ := round_still kn.length 0 kn false (by simpa using h2)
      rw [h4]
      exact h5 j (by omega) (by omega)
end
end Go.Proofs.YtndhbdbfjkmloaaDoor
namespace Go.Proofs.YtndhbdbfjkmloaaDoor
set_option maxRecDepth 100000
open Go.RowKit
def bwt (b : Bool) : Nat := if b then 0 else 1
def faOrd : Ord Fa where
  le x y := (x.e = true -> y.e = true) /\ (x.a = true -> y.a = true) /\ (x.f = true -> y.f = true)
  wt x := bwt x.e + bwt x.a + bwt x.f
  refl x := ⟨id, id, id⟩
  trans h k := ⟨fun e => k.1 (h.1 e), fun e => k.2.1 (h.2.1 e), fun e => k.2.2 (h.2.2 e)⟩
  lt := by
    rintro ⟨a, b, c⟩ ⟨a', b', c'⟩
    revert a b c a' b' c'
    decide
def boOrd : Ord Bool where
  le x y := x = true -> y = true
  wt := bwt
  refl x := id
  trans h k := fun e => k (h e)
  lt := by decide
theorem bot_le (y : Fa) : faOrd.le ⟨false, false, false⟩ y := ⟨(fun h => by cases h), (fun h => by cases h), (fun h => by cases h)⟩
theorem then_mono {a b c d : Fa} (h : faOrd.le a b) (k : faOrd.le c d) : faOrd.le (thenF a c) (thenF b d) := by
  obtain ⟨a1, a2, a3⟩ := a
  obtain ⟨b1, b2, b3⟩ := b
  obtain ⟨c1, c2, c3⟩ := c
  obtain ⟨d1, d2, d3⟩ := d
  obtain ⟨h1, h2, h3⟩ := h
  obtain ⟨k1, k2, k3⟩ := k
  simp only at h1 h2 h3 k1 k2 k3
  refine ⟨?_, ?_, ?_⟩ <;> simp only [thenF, Bool.and_eq_true, Bool.or_eq_true] <;> grind
theorem or_mono {a b c d : Fa} (h : faOrd.le a b) (k : faOrd.le c d) : faOrd.le (orF a c) (orF b d) := by
  obtain ⟨h1, h2, h3⟩ := h
  obtain ⟨k1, k2, k3⟩ := k
  refine ⟨?_, ?_, ?_⟩ <;> simp only [orF, Bool.and_eq_true, Bool.or_eq_true] <;> grind
theorem star_mono {a b : Fa} (h : faOrd.le a b) : faOrd.le (starF a) (starF b) := ⟨h.2.2, h.2.1, id⟩
theorem seq_mono : ∀ {l m : List Fa}, LeL faOrd l m -> faOrd.le (seqF l) (seqF m)
  | [], [], _ => by simp only [seqF]; exact faOrd.refl _
  | [], y :: ys, h => by have := h.1; simp at this
  | x :: xs, [], h => by have := h.1; simp at this
  | x :: xs, y :: ys, h => by
    simp only [seqF]
    have h0 := h.2 0 x y rfl rfl
    have ht : LeL faOrd xs ys := ⟨by have := h.1; simpa using this, fun i u v hu hv => h.2 (i + 1) u v (by simpa using hu) (by simpa using hv)⟩
    clear h
    induction xs generalizing ys x y with
    | nil =>
      cases ys with
      | nil => exact h0
      | cons z zs => have := ht.1; simp at this
    | cons u us ih =>
      cases ys with
      | nil => have := ht.1; simp at this
      | cons z zs =>
        simp only [List.foldl_cons]
        exact ih (thenF x u) (thenF y z) zs (then_mono h0 (ht.2 0 u z rfl rfl)) ⟨by have := ht.1; simpa using this, fun i p q hp hq => ht.2 (i + 1) p q (by simpa using hp) (by simpa using hq)⟩
theorem alt_mono : ∀ {l m : List Fa}, LeL faOrd l m -> faOrd.le (altF l) (altF m)
  | [], [], _ => by simp only [altF]; exact faOrd.refl _
  | [], y :: ys, h => by have := h.1; simp at this
  | x :: xs, [], h => by have := h.1; simp at this
  | [x], [y], h => by simp only [altF]; exact h.2 0 x y rfl rfl
  | [x], y :: z :: zs, h => by have := h.1; simp at this
  | x :: u :: us, [y], h => by have := h.1; simp at this
  | x :: u :: us, y :: z :: zs, h => by
    simp only [altF]
    exact or_mono (h.2 0 x y rfl rfl) (alt_mono (l := u :: us) (m := z :: zs) ⟨by have := h.1; simpa using this, fun i p q hp hq => h.2 (i + 1) p q (by simpa using hp) (by simpa using hq)⟩)
theorem kid_mono : ∀ {l m : List Fa}, LeL faOrd l m -> faOrd.le (kid0 l) (kid0 m)
  | [], [], _ => by simp only [kid0]; exact faOrd.refl _
  | [], y :: ys, h => by have := h.1; simp at this
  | x :: xs, [], h => by have := h.1; simp at this
  | x :: xs, y :: ys, h => by simp only [kid0]; exact h.2 0 x y rfl rfl
theorem ofEs_mono {g : List Rl} {l m : List Fa} (ks : List Ex) (ih : ∀ e ∈ ks, faOrd.le (ofE g l e) (ofE g m e)) : LeL faOrd (ofEs g l ks) (ofEs g m ks) := by
  refine ⟨by rw [ofEs_len, ofEs_len], fun i x y hx hy => ?_⟩
  rw [ofEs_at, Option.map_eq_some_iff] at hx hy
  obtain ⟨e, he, rfl⟩ := hx
  obtain ⟨e', he', rfl⟩ := hy
  rw [he] at he'
  injection he' with he'
  subst he'
  exact ih e (List.mem_of_getElem? he)
theorem of_mono {g : List Rl} {l m : List Fa} (h : LeL faOrd l m) (e : Ex) : faOrd.le (ofE g l e) (ofE g m e) := by
  refine Ex.ind (P := fun e => faOrd.le (ofE g l e) (ofE g m e)) ?_ e
  intro k a b c d t ks ih
  have hk := ofEs_mono ks ih
  have h0 := kid_mono hk
  rw [ofE, ofE]
  by_cases k1 : k = 1
  · rw [if_pos k1, if_pos k1]
    exact faOrd.refl _
  rw [if_neg k1, if_neg k1]
  by_cases k2 : k = 2
  · rw [if_pos k2, if_pos k2]
    exact faOrd.refl _
  rw [if_neg k2, if_neg k2]
  by_cases k3 : k = 3
  · rw [if_pos k3, if_pos k3]
    exact faOrd.refl _
  rw [if_neg k3, if_neg k3]
  by_cases k4 : k = 4
  · rw [if_pos k4, if_pos k4]
    have hl := h.1
    by_cases hi : (fnd g t.data.toList).toNat < l.length
    · have h1 : l[(fnd g t.data.toList).toNat]? = some l[(fnd g t.data.toList).toNat] := List.getElem?_eq_getElem hi
      have h2 : m[(fnd g t.data.toList).toNat]? = some (m[(fnd g t.data.toList).toNat]'(by omega)) := List.getElem?_eq_getElem (by omega)
      have := h.2 _ _ _ h1 h2
      simp only [List.getD, h1, h2, Option.getD_some]
      exact this
    · simp only [List.getD, List.getElem?_eq_none (show l.length <= (fnd g t.data.toList).toNat by omega), List.getElem?_eq_none (show m.length <= (fnd g t.data.toList).toNat by omega)]
      exact faOrd.refl _
  rw [if_neg k4, if_neg k4]
  by_cases k5 : k = 5
  · rw [if_pos k5, if_pos k5]
    exact seq_mono hk
  rw [if_neg k5, if_neg k5]
  by_cases k6 : k = 6
  · rw [if_pos k6, if_pos k6]
    exact alt_mono hk
  rw [if_neg k6, if_neg k6]
  by_cases k7 : k = 7
  · rw [if_pos k7, if_pos k7]
    exact star_mono h0
  rw [if_neg k7, if_neg k7]
  by_cases k8 : k = 8
  · rw [if_pos k8, if_pos k8]
    exact then_mono h0 (star_mono h0)
  rw [if_neg k8, if_neg k8]
  by_cases k9 : k = 9
  · rw [if_pos k9, if_pos k9]
    exact or_mono h0 (faOrd.refl _)
  rw [if_neg k9, if_neg k9]
  obtain ⟨h1, h2, h3⟩ := h0
  have h12 : ((kid0 (ofEs g l ks)).e || (kid0 (ofEs g l ks)).a) = true -> ((kid0 (ofEs g m ks)).e || (kid0 (ofEs g m ks)).a) = true := by
    simp only [Bool.or_eq_true]
    rintro (h | h)
    · exact .inl (h1 h)
    · exact .inr (h2 h)
  by_cases k10 : k = 10
  · rw [if_pos k10, if_pos k10]
    exact ⟨h12, id, h3⟩
  rw [if_neg k10, if_neg k10]
  exact ⟨h3, id, h12⟩
def nxF (g : List Rl) (kn : List Fa) (i : Nat) : Fa := match g[i]? with
  | some r => ofE g kn r.2
  | none => ⟨false, false, false⟩
def factsG (g : List Rl) : List Fa := growG (nxF g) (wtL faOrd (List.replicate g.length ⟨false, false, false⟩) + 1) (List.replicate g.length ⟨false, false, false⟩)
theorem nxF_mono (g : List Rl) (n : Nat) : Mono faOrd (nxF g) n := by
  intro l m _ h i
  unfold nxF
  split
  · exact of_mono h _
  · exact faOrd.refl _
theorem low_zero (g : List Rl) : Low faOrd (nxF g) (List.replicate g.length ⟨false, false, false⟩) := by
  intro i x hx
  rw [List.getElem?_replicate] at hx
  split at hx
  · injection hx with hx
    subst hx
    exact bot_le _
  · cases hx
theorem facts_len (g : List Rl) : (factsG g).length = g.length := by
  unfold factsG
  rw [(grow_keeps (nx := nxF g) (P := fun _ => True) (fun _ _ _ _ _ => trivial) _ _ trivial).2]
  simp
theorem facts_fix (g : List Rl) (i : Nat) (hi : i < g.length) : (factsG g)[i]? = some (nxF g (factsG g) i) :=
  grow_fix (nxF_mono g g.length) _ _ (by simp) (low_zero g) (by omega) i hi
end Go.Proofs.YtndhbdbfjkmloaaDoor
namespace Go.Proofs.YtndhbdbfjkmloaaDoor
set_option maxRecDepth 100000
def hasE (a b c d : Int) (x : Nat) : Bool := hasN [a.toNat, b.toNat, c.toNat, d.toNat] x
def litAt (s : List UInt8) (at_ : Nat) (t : List UInt8) : Bool := t.isPrefixOf (s.drop at_)
inductive Job where
  | ex (e : Ex)
  | kid (k : Int) (e : Ex)
  | seq (es : List Ex)
  | alt (es : List Ex)
  | rep (e : Ex)
def evJ (g : List Rl) (s : List UInt8) : Nat -> Job -> Nat -> Option (Option Nat)
  | 0, _, _ => none
  | n + 1, .ex (.mk k a b c d t ks), p =>
    if k = 1 then some (some p)
    else if k = 2 then some (if p < s.length /\ hasE a b c d (bt s p) = true then some (p + 1) else none)
    else if k = 3 then some (if litAt s p t.data.toList = true then some (p + t.size) else none)
    else if k = 4 then (match g[(fnd g t.data.toList).toNat]? with
      | some r => evJ g s n (.ex r.2) p
      | none => some none)
    else if k = 5 then evJ g s n (.seq ks) p
    else if k = 6 then evJ g s n (.alt ks) p
    else (match ks with
      | [] => some none
      | e :: _ => evJ g s n (.kid k e) p)
  | n + 1, .kid k e, p =>
    if k = 7 then evJ g s n (.rep e) p
    else match evJ g s n (.ex e) p with
      | none => none
      | some none => some (if k = 8 \/ k = 10 then none else some p)
      | some (some tq) => if k = 8 then evJ g s n (.rep e) tq else if k = 9 then some (some tq) else if k = 10 then some (some p) else some none
  | _ + 1, .seq [], p => some (some p)
  | n + 1, .seq (e :: es), p => match evJ g s n (.ex e) p with
    | none => none
    | some none => some none
    | some (some tq) => evJ g s n (.seq es) tq
  | _ + 1, .alt [], _ => some none
  | n + 1, .alt (e :: es), p => match evJ g s n (.ex e) p with
    | none => none
    | some none => evJ g s n (.alt es) p
    | some (some tq) => some (some tq)
  | n + 1, .rep e, p => match evJ g s n (.ex e) p with
    | none => none
    | some none => some (some p)
    | some (some tq) => evJ g s n (.rep e) tq
def ev (g : List Rl) (s : List UInt8) (n : Nat) (e : Ex) (p : Nat) : Option (Option Nat) := evJ g s n (.ex e) p
def evK (g : List Rl) (s : List UInt8) (n : Nat) (k : Int) (e : Ex) (p : Nat) : Option (Option Nat) := evJ g s n (.kid k e) p
def evS (g : List Rl) (s : List UInt8) (n : Nat) (es : List Ex) (p : Nat) : Option (Option Nat) := evJ g s n (.seq es) p
def evA (g : List Rl) (s : List UInt8) (n : Nat) (es : List Ex) (p : Nat) : Option (Option Nat) := evJ g s n (.alt es) p
def evR (g : List Rl) (s : List UInt8) (n : Nat) (e : Ex) (p : Nat) : Option (Option Nat) := evJ g s n (.rep e) p
theorem ev_s (g : List Rl) (s : List UInt8) (n : Nat) (k a b c d : Int) (t : ByteArray) (ks : List Ex) (p : Nat) : ev g s (n + 1) (.mk k a b c d t ks) p =
    if k = 1 then some (some p)
    else if k = 2 then some (if p < s.length /\ hasE a b c d (bt s p) = true then some (p + 1) else none)
    else if k = 3 then some (if litAt s p t.data.toList = true then some (p + t.size) else none)
    else if k = 4 then (match g[(fnd g t.data.toList).toNat]? with
      | some r => ev g s n r.2 p
      | none => some none)
    else if k = 5 then evS g s n ks p
    else if k = 6 then evA g s n ks p
    else (match ks with
      | [] => some none
      | e :: _ => evK g s n k e p) := rfl
theorem evK_s (g : List Rl) (s : List UInt8) (n : Nat) (k : Int) (e : Ex) (p : Nat) : evK g s (n + 1) k e p =
    if k = 7 then evR g s n e p
    else match ev g s n e p with
      | none => none
      | some none => some (if k = 8 \/ k = 10 then none else some p)
      | some (some tq) => if k = 8 then evR g s n e tq else if k = 9 then some (some tq) else if k = 10 then some (some p) else some none := rfl
theorem evS_nil (g : List Rl) (s : List UInt8) (n p : Nat) : evS g s (n + 1) [] p = some (some p) := rfl
theorem evS_cons (g : List Rl) (s : List UInt8) (n : Nat) (e : Ex) (es : List Ex) (p : Nat) : evS g s (n + 1) (e :: es) p = match ev g s n e p with
    | none => none
    | some none => some none
    | some (some tq) => evS g s n es tq := rfl
theorem evA_nil (g : List Rl) (s : List UInt8) (n p : Nat) : evA g s (n + 1) [] p = some none := rfl
theorem evA_cons (g : List Rl) (s : List UInt8) (n : Nat) (e : Ex) (es : List Ex) (p : Nat) : evA g s (n + 1) (e :: es) p = match ev g s n e p with
    | none => none
    | some none => evA g s n es p
    | some (some tq) => some (some tq) := rfl
theorem evR_s (g : List Rl) (s : List UInt8) (n : Nat) (e : Ex) (p : Nat) : evR g s (n + 1) e p = match ev g s n e p with
    | none => none
    | some none => some (some p)
    | some (some tq) => evR g s n e tq := rfl
theorem ev_mono (g : List Rl) (s : List UInt8) : ∀ n, (∀ e p o, ev g s n e p = some o -> ev g s (n + 1) e p = some o) /\ (∀ k e p o, evK g s n k e p = some o -> evK g s (n + 1) k e p = some o) /\
    (∀ es p o, evS g s n es p = some o -> evS g s (n + 1) es p = some o) /\ (∀ es p o, evA g s n es p = some o -> evA g s (n + 1) es p = some o) /\ (∀ e p o, evR g s n e p = some o -> evR g s (n + 1) e p = some o) := by
  intro n
  induction n with
  | zero => exact ⟨fun e p o h => (by cases h), fun k e p o h => (by cases h), fun es p o h => (by cases h), fun es p o h => (by cases h), fun e p o h => (by cases h)⟩
  | succ n ih =>
    obtain ⟨h1, h2, h3, h4, h5⟩ := ih
    refine ⟨?_, ?_, ?_, ?_, ?_⟩
    · rintro ⟨k, a, b, c, d, t, ks⟩ p o h
      rw [ev_s] at h
      rw [ev_s]
      by_cases k1 : k = 1
      · rw [if_pos k1] at h ⊢; exact h
      rw [if_neg k1] at h ⊢
      by_cases k2 : k = 2
      · rw [if_pos k2] at h ⊢; exact h
      rw [if_neg k2] at h ⊢
      by_cases k3 : k = 3
      · rw [if_pos k3] at h ⊢; exact h
      rw [if_neg k3] at h ⊢
      by_cases k4 : k = 4
      · rw [if_pos k4] at h ⊢
        cases hg : g[(fnd g t.data.toList).toNat]? with
        | none => rw [hg] at h; exact h
        | some r => rw [hg] at h; exact h1 _ _ _ h
      rw [if_neg k4] at h ⊢
      by_cases k5 : k = 5
      · rw [if_pos k5] at h ⊢; exact h3 _ _ _ h
      rw [if_neg k5] at h ⊢
      by_cases k6 : k = 6
      · rw [if_pos k6] at h ⊢; exact h4 _ _ _ h
      rw [if_neg k6] at h ⊢
      cases ks with
      | nil => exact h
      | cons e es => exact h2 _ _ _ _ h
    · intro k e p o h
      rw [evK_s] at h
      rw [evK_s]
      by_cases k7 : k = 7
      · rw [if_pos k7] at h ⊢; exact h5 _ _ _ h
      rw [if_neg k7] at h ⊢
      cases he : ev g s n e p with
      | none => rw [he] at h; cases h
      | some u =>
        rw [he] at h
        rw [h1 _ _ _ he]
        cases u with
        | none => exact h
        | some tq =>
          simp only at h ⊢
          by_cases k8 : k = 8
          · rw [if_pos k8] at h ⊢; exact h5 _ _ _ h
          · rw [if_neg k8] at h ⊢; exact h
    · intro es p o h
      cases es with
      | nil => rw [evS_nil] at h; rw [evS_nil]; exact h
      | cons e es =>
        rw [evS_cons] at h
        rw [evS_cons]
        cases he : ev g s n e p with
        | none => rw [he] at h; cases h
        | some u =>
          rw [he] at h
          rw [h1 _ _ _ he]
          cases u with
          | none => exact h
          | some tq => exact h3 _ _ _ h
    · intro es p o h
      cases es with
      | nil => rw [evA_nil] at h; rw [evA_nil]; exact h
      | cons e es =>
        rw [evA_cons] at h
        rw [evA_cons]
        cases he : ev g s n e p with
        | none => rw [he] at h; cases h
        | some u =>
          rw [he] at h
          rw [h1 _ _ _ he]
          cases u with
          | none => exact h4 _ _ _ h
          | some tq => exact h
    · intro e p o h
      rw [evR_s] at h
      rw [evR_s]
      cases he : ev g s n e p with
      | none => rw [he] at h; cases h
      | some u =>
        rw [he] at h
        rw [h1 _ _ _ he]
        cases u with
        | none => exact h
        | some tq => exact h5 _ _ _ h
theorem ev_le {g : List Rl} {s : List UInt8} {n m : Nat} {e : Ex} {p : Nat} {o : Option Nat} (h : ev g s n e p = some o) (hm : n <= m) : ev g s m e p = some o := by
  induction hm with
  | refl => exact h
  | step _ ih => exact (ev_mono g s _).1 _ _ _ ih
theorem evS_le {g : List Rl} {s : List UInt8} {n m : Nat} {e : List Ex} {p : Nat} {o : Option Nat} (h : evS g s n e p = some o) (hm : n <= m) : evS g s m e p = some o := by
  induction hm with
  | refl => exact h
  | step _ ih => exact (ev_mono g s _).2.2.1 _ _ _ ih
theorem evA_le {g : List Rl} {s : List UInt8} {n m : Nat} {e : List Ex} {p : Nat} {o : Option Nat} (h : evA g s n e p = some o) (hm : n <= m) : evA g s m e p = some o := by
  induction hm with
  | refl => exact h
  | step _ ih => exact (ev_mono g s _).2.2.2.1 _ _ _ ih
theorem evR_le {g : List Rl} {s : List UInt8} {n m : Nat} {e : Ex} {p : Nat} {o : Option Nat} (h : evR g s n e p = some o) (hm : n <= m) : evR g s m e p = some o := by
  induction hm with
  | refl => exact h
  | step _ ih => exact (ev_mono g s _).2.2.2.2 _ _ _ ih
theorem ev_eq {g : List Rl} {s : List UInt8} {n m : Nat} {e : Ex} {p : Nat} {o o' : Option Nat} (h : ev g s n e p = some o) (h' : ev g s m e p = some o') : o = o' := by
  have h1 := ev_le h (Nat.le_max_left n m)
  have h2 := ev_le h' (Nat.le_max_right n m)
  rw [h1] at h2
  injection h2
end Go.Proofs.YtndhbdbfjkmloaaDoor
