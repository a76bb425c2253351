/- What (*expr.looker).look, expr.Check and expr.Size answer. Grammars in memory; a kid, a rule, with all its cells. What gram.Find answers. expr.all hands all nodes of an expression to yield, each ahead of its kids: the contract of expr.All as an iterator. How many nodes an expression has, and that expr.Size says so of a right one; plain. expr.All as an iterator; what expr.Refs collects, plain. -/
import Derived.Test.YtndhbdbfjkmloaaJTopTree0
import Derived.RangeFuncNested
import Derived.RangeFuncBound
import Derived.RangeFuncCalls
import Derived.RangeFuncLeaves
import Derived.Shelf.Abstract
import Derived.Shelf.RegionOpen
import Derived.OwnWalkIn
import Derived.TacticsInMore
import Derived.LoopNIn
import Derived.LoopIn
import Derived.Maps.OwnIn
import Derived.Maps.Views
import Derived.Maps.AppendAt
namespace Go.Proofs.Ytndhbdbfjkmloaa
open Go.RowKit

mutual
/-- how a looker that has counted n goes through a node at this depth: what went wrong, and what it has counted then -/
def lookN : Ex → Nat → Nat → Int × Nat
  | .mk k a b c d t ks, n, deep =>
    if 60 < n + 1 then (2, n + 1) else if 12 < deep then (5, n + 1) else if fitB k a b c d t.data.toList ks.length = false then (3, n + 1) else looks ks (n + 1) (deep + 1)
def looks : List Ex → Nat → Nat → Int × Nat
  | [], n, _ => (0, n)
  | e :: es, n, deep => if (lookN e n deep).1 = 0 then looks es (lookN e n deep).2 deep else lookN e n deep
end

theorem fit_len {k a b c d : Int} {t : List UInt8} {n : Nat} (h : fitB k a b c d t n = true) : n ≤ 8 := by
  unfold fitB at h
  split at h
  · cases h
  · rename_i lo hi hl
    have h2 : n ≤ hi := by
      simp only [Bool.and_eq_true, decide_eq_true_eq] at h
      exact h.2
    have h3 : hi ≤ 8 := by
      unfold lims at hl
      repeat' split at hl
      all_goals (first | cases hl | skip) <;> omega
    omega
theorem looks_le : ∀ (ks : List Ex) (n deep : Nat), (∀ e ∈ ks, ∀ n deep, n ≤ 60 → (lookN e n deep).2 ≤ 61 ∧ ((lookN e n deep).1 = 0 → (lookN e n deep).2 ≤ 60)) → n ≤ 60 → (looks ks n deep).2 ≤ 61 ∧ ((looks ks n deep).1 = 0 → (looks ks n deep).2 ≤ 60)
  | [], n, deep, _, hn => by simp [looks]; omega
  | e :: es, n, deep, h, hn => by
    have h1 := h e (by simp) n deep hn
    unfold looks
    split
    · rename_i h0
      exact looks_le es _ deep (fun e' he' => h e' (by simp [he'])) (h1.2 h0)
    · exact h1
theorem lookN_le (e : Ex) : ∀ n deep, n ≤ 60 → (lookN e n deep).2 ≤ 61 ∧ ((lookN e n deep).1 = 0 → (lookN e n deep).2 ≤ 60) := by
  refine Ex.ind (P := fun e => ∀ n deep, n ≤ 60 → (lookN e n deep).2 ≤ 61 ∧ ((lookN e n deep).1 = 0 → (lookN e n deep).2 ≤ 60)) ?_ e
  intro k a b c d t ks ih n deep hn
  unfold lookN
  split
  · exact ⟨by simp; omega, fun h => by simp at h⟩
  · split
    · exact ⟨by simp; omega, fun h => by simp at h⟩
    · split
      · exact ⟨by simp; omega, fun h => by simp at h⟩
      · exact looks_le ks _ _ ih (by omega)

/-- what look leaves -/
def LookQ (g : Nat) (r : Int × Nat) (w : World) (e : Ending) (w' : World) : Prop :=
  e = .returned (.int .i64 r.1) ∧ Blk w' g 76 #[.int .i64 r.2] ∧ w.grownBy w' (some g)

theorem grown_cells {w w' : World} {g : Nat} (h : w.grownBy w' (some g)) {B : Nat} (hB : B ≤ g) (hg : g < w.heap.size) (p : Addr) (hp : p.block < B) : w'.cell? p = w.cell? p :=
  World.cell?_of_block (h.block p.block (by omega) fun e => by injection e with e; omega)

theorem grown_set {a w : World} {g i : Nat} (h : a.grownBy w (some g)) (u : Value) : a.grownBy (w.setCell ⟨g, i, none⟩ u) (some g) :=
  ⟨h.os, h.tape, h.output, by simpa [World.setCell] using h.size, fun k hk hne => (Below.heap_setCell w ⟨g, i, none⟩ u k (by rintro rfl; exact hne rfl)).trans (h.block k hk hne)⟩
theorem grown_alloc {a w : World} {r : Option Nat} (h : a.grownBy w r) (o : Obj) : a.grownBy (w.alloc o) r :=
  ⟨h.os, h.tape, h.output, by have := h.size; simp; omega, fun k hk hne => (Below.heap_alloc w o k (Nat.lt_of_lt_of_le hk h.size)).trans (h.block k hk hne)⟩
theorem grown_below {a w w' : World} {r : Option Nat} (h : a.grownBy w r) (hb : Below w.heap.size w w') : a.grownBy w' r :=
  ⟨hb.os.trans h.os, hb.tape.trans h.tape, hb.output.trans h.output, Nat.le_trans h.size hb.size, fun k hk hne => (hb.block k (Nat.lt_of_lt_of_le hk h.size)).trans (h.block k hk hne)⟩
theorem grown_trans {a w w' : World} {r : Option Nat} (h : a.grownBy w r) (h' : w.grownBy w' r) : a.grownBy w' r :=
  ⟨h'.os.trans h.os, h'.tape.trans h.tape, h'.output.trans h.output, Nat.le_trans h.size h'.size, fun k hk hne => (h'.block k (Nat.lt_of_lt_of_le hk h.size) hne).trans (h.block k hk hne)⟩

set_option maxRecDepth 100000 in
theorem look_any (e : Ex) : ∀ (cs : List Value) (w : World) (g n deep B : Nat), ExIs w B e cs → B ≤ g → Blk w g 76 #[.int .i64 n] → n ≤ 60 → deep ≤ 13 →
    Calls Try.prog 32 #[.pointer (some ⟨g, 0, none⟩), .agg cs.toArray, .int .i64 deep] w (LookQ g (lookN e n deep) w) := by
  refine Ex.ind (P := fun e => ∀ (cs : List Value) (w : World) (g n deep B : Nat), ExIs w B e cs → B ≤ g → Blk w g 76 #[.int .i64 n] → n ≤ 60 → deep ≤ 13 →
    Calls Try.prog 32 #[.pointer (some ⟨g, 0, none⟩), .agg cs.toArray, .int .i64 deep] w (LookQ g (lookN e n deep) w)) ?_ e
  intro k a b c d t ks ih cs w g n deep B he hB hg hn hd
  cases he with
  | mk _ _ _ _ _ _ _ A cp row ht hl hm hnone hb hr hc =>
  have IH := Lib.hid ih
  have HRow := Lib.hid hr
  have HC := Lib.hid hc
  have HBk := Lib.hid hb
  have hgl := hg.lt
  have hc0 : w.cell? ⟨g, 0, none⟩ = some (.int .i64 n) := hg.cell 0
  have hf0 := hg.frozen 0
  clear ih hr hc hb hnone
  have HF : Hid (lookN (.mk k a b c d t ks) n deep = if 60 < n + 1 then (2, n + 1) else if 12 < deep then (5, n + 1) else if fitB k a b c d t.data.toList ks.length = false then (3, n + 1) else looks ks (n + 1) (deep + 1)) := by
    show _ = _
    rw [lookN]
  by_cases h60 : 60 < n + 1
  · have HFF : Hid (lookN (.mk k a b c d t ks) n deep = (2, n + 1)) := HF.out.trans (if_pos h60)
    go_enter Try.func32, Try.ntmps32
    go_wp2
    go_ret
    exact ⟨by rw [HFF.out]; rfl, (by rw [HFF.out]; exact (hg.set_ 0 _).alloc _), (by first | exact grown_alloc (grown_set (World.grownBy.refl _ _) _) _)⟩
  by_cases h12 : 12 < deep
  · have HFF : Hid (lookN (.mk k a b c d t ks) n deep = (5, n + 1)) := HF.out.trans ((if_neg h60).trans (if_pos h12))
    go_enter Try.func32, Try.ntmps32
    go_wp2
    go_ret
    exact ⟨by rw [HFF.out]; rfl, (by rw [HFF.out]; exact (hg.set_ 0 _).alloc _), (by first | exact grown_alloc (grown_set (World.grownBy.refl _ _) _) _)⟩
  cases hfit : fitB k a b c d t.data.toList ks.length
  · have HFF : Hid (lookN (.mk k a b c d t ks) n deep = (3, n + 1)) := HF.out.trans ((if_neg h60).trans ((if_neg h12).trans (if_pos hfit)))
    have HFit := Lib.hid hfit
    clear hfit
    go_enter Try.func32, Try.ntmps32
    go_wp2_with fail
    refine (fit_any k a b c d t A ks.length cp _).mono ?_
    rw [HFit.out]
    rintro e w1 ⟨rfl, hb1⟩
    have hg1 : Blk w1 g 76 #[.int .i64 ((n : Int) + 1)] := ((hg.set_ 0 _).alloc _).below hb1 (by simp; omega)
    have hw1 : w.grownBy w1 (some g) := grown_below (grown_alloc (grown_set (World.grownBy.refl _ _) _) _) hb1
    clear hb1
    go_wp2
    go_ret
    exact ⟨by rw [HFF.out]; rfl, (by rw [HFF.out]; exact hg1), hw1⟩
  have h8 := fit_len hfit
  have HFF : Hid (lookN (.mk k a b c d t ks) n deep = looks ks (n + 1) (deep + 1)) := HF.out.trans ((if_neg h60).trans ((if_neg h12).trans (if_neg (by rw [hfit]; decide))))
  have HFit := Lib.hid hfit
  clear hfit
  go_enter Try.func32, Try.ntmps32
  go_wp2_with fail
  refine (fit_any k a b c d t A ks.length cp _).mono ?_
  rw [HFit.out]
  rintro e w1 ⟨rfl, hb1⟩
  have hg1 : Blk w1 g 76 #[.int .i64 ((n : Int) + 1)] := ((hg.set_ 0 _).alloc _).below hb1 (by simp; omega)
  have hw1 : w.grownBy w1 (some g) := grown_below (grown_alloc (grown_set (World.grownBy.refl _ _) _) _) hb1
  have hx6 : w1.cell? ⟨w.heap.size, 6, none⟩ = some (.slice A ks.length cp) := by
    rw [hb1.cell (p := ⟨w.heap.size, 6, none⟩) (by simp)]
    exact (blk_at (by simp)).cell 6
  clear hb1 HFit
  go_wp2
  go_loopw [8, 9, 33] (fun _ _ i wr => ∃ j m : Nat, j ≤ ks.length ∧ m ≤ 60 ∧ i = .int .i64 j ∧ Hid (lookN (.mk k a b c d t ks) n deep = looks (ks.drop j) m (deep + 1)) ∧ Blk wr g 76 #[.int .i64 m] ∧ w.grownBy wr (some g)) (fun _ _ i _ => ks.length - (intOf i).toNat)
  case atStart => exact ⟨0, n + 1, by omega, by omega, rfl, HFF, hg1, hw1⟩
  case round =>
    obtain ⟨j, m, hj, hm60, rfl, HR, hgr, hwr⟩ := hrel
    by_cases hjk : j < ks.length
    · have hej : ks[j]? = some ks[j] := List.getElem?_eq_getElem hjk
      generalize ks[j] = ej at hej
      obtain ⟨ad, rfl, hab⟩ := HBk.out (by omega)
      have hgrl := hgr.lt
      have hej2 := (HRow.out j ej hej).keep (Nat.le_refl _) (fun p hp => grown_cells hwr hB hgl p hp)
      have hcj := HC.out j ej ad hej rfl
      have hmem := List.mem_of_getElem? hej
      have HD : Hid (ks.drop j = ej :: ks.drop (j + 1)) := by
        show _ = _
        rw [List.drop_eq_getElem_cons hjk]
        rw [List.getElem?_eq_getElem hjk] at hej
        injection hej with hej
        rw [hej]
      generalize row j = rj at hej2 hcj
      cases ej with
      | mk k' a' b' c' d' t' ks' =>
      have hej3 := hej2
      cases hej2 with
      | mk _ _ _ _ _ _ _ A' cp' row' ht' hl' hm' hnone' hb' hr' hc' =>
      have e0 : wr.cell? (ad.add (j * 7)) = some (.int .i64 k') := by
        rw [grown_cells hwr hB hgl _ (by rw [add_block]; exact hab)]
        exact hcj 0 _ rfl
      have hcc : ∀ i u, [Value.int .i64 k', .int .u64 a', .int .u64 b', .int .u64 c', .int .u64 d', .string t', .slice A' ks'.length cp'][i]? = some u → wr.cell? ((ad.add (j * 7)).add i) = some u := by
        intro i u hu
        rw [grown_cells hwr hB hgl _ (by rw [add_block, add_block]; exact hab)]
        exact hcj i u hu
      have e1 : wr.cell? ⟨(ad.add (j * 7)).block, (ad.add (j * 7)).off + 1, none⟩ = some (.int .u64 a') := hcc 1 _ rfl
      have e2 : wr.cell? ⟨(ad.add (j * 7)).block, (ad.add (j * 7)).off + 2, none⟩ = some (.int .u64 b') := hcc 2 _ rfl
      have e3 : wr.cell? ⟨(ad.add (j * 7)).block, (ad.add (j * 7)).off + 3, none⟩ = some (.int .u64 c') := hcc 3 _ rfl
      have e4 : wr.cell? ⟨(ad.add (j * 7)).block, (ad.add (j * 7)).off + 4, none⟩ = some (.int .u64 d') := hcc 4 _ rfl
      have e5 : wr.cell? ⟨(ad.add (j * 7)).block, (ad.add (j * 7)).off + 5, none⟩ = some (.string t') := hcc 5 _ rfl
      have e6 : wr.cell? ⟨(ad.add (j * 7)).block, (ad.add (j * 7)).off + 6, none⟩ = some (.slice A' ks'.length cp') := hcc 6 _ rfl
      clear hcc hcj hej hr' hc' hb' hnone'
      have hle := lookN_le (.mk k' a' b' c' d' t' ks') m (deep + 1) hm60
      generalize hx : lookN (.mk k' a' b' c' d' t' ks') m (deep + 1) = r at hle
      obtain ⟨x, m2⟩ := r
      have HX := Lib.hid hx
      clear hx
      have hcall : ∀ o : Obj, Calls Try.prog 32 #[.pointer (some ⟨g, 0, none⟩), .agg #[.int .i64 k', .int .u64 a', .int .u64 b', .int .u64 c', .int .u64 d', .string t', .slice A' ks'.length cp'], .int .i64 ((deep : Int) + 1)] (wr.alloc o) (LookQ g (x, m2) (wr.alloc o)) := fun o => by
        have h := IH.out _ hmem _ (wr.alloc o) g m (deep + 1) B (hej3.keep (Nat.le_refl _) (fun p hp => World.cell?_alloc_lt _ _ _ (by omega))) hB (hgr.alloc _) hm60 (by omega)
        rw [HX.out] at h
        exact h
      have HCall := Lib.hid hcall
      clear hcall hej3
      go_wp2_with fail
      refine (HCall.out _).mono ?_
      rintro e w2 ⟨rfl, hg2, hw2⟩
      have hwr2 : w.grownBy w2 (some g) := grown_trans (grown_alloc hwr _) hw2
      clear hw2
      by_cases hx0 : x = 0
      · subst hx0
        go_wp2
        go_roundw
        case rel =>
          refine ⟨j + 1, m2, by omega, hle.2 (by simp), by go_num, ?_, hg2, hwr2⟩
          refine HR.out.trans ?_
          rw [HD.out, looks, HX.out, if_pos rfl]
        case measure => simp [intOf]; omega
      · have hxb : (x != 0) = true := by rw [bne_iff_ne]; exact hx0
        go_wp2
        go_ret
        have HE : lookN (.mk k a b c d t ks) n deep = (x, m2) := HR.out.trans (by rw [HD.out, looks, HX.out, if_neg hx0])
        exact ⟨by rw [HE]; rfl, by rw [HE]; exact hg2, hwr2⟩
    · obtain rfl : j = ks.length := by omega
      have HR2 : Hid (lookN (.mk k a b c d t ks) n deep = (0, m)) := HR.out.trans (by rw [List.drop_length, looks])
      go_wp2
      go_ret
      exact ⟨by rw [HR2.out]; rfl, by rw [HR2.out]; exact hgr, hwr⟩

/-- what expr.Check and expr.Size say -/
def checkE (e : Ex) : Int := (lookN e 0 1).1
def sizeE (e : Ex) : Nat × Int := if (lookN e 0 1).1 = 0 then ((lookN e 0 1).2, 0) else (0, (lookN e 0 1).1)

theorem below_of_grown {w w' : World} {g B : Nat} (h : w.grownBy w' (some g)) (hB : B ≤ g) (hw : B ≤ w.heap.size) : Below B w w' :=
  ⟨h.os, h.tape, h.output, h.size, fun k hk => h.block k (by omega) fun e => by injection e with e; omega⟩

theorem Ex.parts (e : Ex) {w : World} {B : Nat} {cs : List Value} (h : ExIs w B e cs) : ∃ k a b c d t A n cp, cs = [.int .i64 k, .int .u64 a, .int .u64 b, .int .u64 c, .int .u64 d, .string t, .slice A n cp] := by
  cases h with
  | mk k a b c d t ks A cp row ht hl hm hnone hb hr hc => exact ⟨_, _, _, _, _, _, _, _, _, rfl⟩

theorem check_expr (e : Ex) (cs : List Value) (w : World) (h : ExIs w w.heap.size e cs) : Calls Try.prog 17 #[.agg cs.toArray] w fun e' w' => e' = .returned (.int .i64 (checkE e)) ∧ Below w.heap.size w w' := by
  have hl := fun (W : World) (g : Nat) (hW : Below w.heap.size w W) (hg : w.heap.size ≤ g) (hb : Blk W g 76 #[.int .i64 0]) => look_any e cs W g 0 1 w.heap.size (h.on hW) hg hb (by omega) (by omega)
  have HL := Lib.hid hl
  obtain ⟨k, a, b, c, d, t, A, n, cp, rfl⟩ := e.parts h
  clear hl h
  go_enter Try.func17, Try.ntmps17
  go_wp2_with fail
  refine (HL.out _ (w.heap.size + 1) (by repeat (first | exact Below.refl _ _ | assumption | refine Below.drew ?_ | refine below_drewN ?_ _ | refine Below.alloc ?_ (by first | omega | (simp; omega) | simp) _ | refine Below.setCell ?_ (by first | omega | (simp; omega) | simp) _)) (by omega) (blk_at (by simp))).mono ?_
  rintro e' w1 ⟨rfl, _, hw1⟩
  have hb1 : Below w.heap.size w w1 := Below.trans (by repeat (first | exact Below.refl _ _ | assumption | refine Below.drew ?_ | refine below_drewN ?_ _ | refine Below.alloc ?_ (by first | omega | (simp; omega) | simp) _ | refine Below.setCell ?_ (by first | omega | (simp; omega) | simp) _)) (below_of_grown hw1 (by simp) (by simp; omega))
  clear hw1
  go_wp2
  go_ret
  exact ⟨rfl, hb1⟩

theorem size_expr (e : Ex) (cs : List Value) (w : World) (h : ExIs w w.heap.size e cs) : Calls Try.prog 65 #[.agg cs.toArray] w fun e' w' => e' = .returned (.tuple #[.int .i64 (sizeE e).1, .int .i64 (sizeE e).2]) ∧ Below w.heap.size w w' := by
  have hl := fun (W : World) (g : Nat) (hW : Below w.heap.size w W) (hg : w.heap.size ≤ g) (hb : Blk W g 76 #[.int .i64 0]) => look_any e cs W g 0 1 w.heap.size (h.on hW) hg hb (by omega) (by omega)
  have hle := (lookN_le e 0 1 (by omega)).1
  obtain ⟨k, a, b, c, d, t, A, n, cp, rfl⟩ := e.parts h
  have hs : sizeE e = if (lookN e 0 1).1 = 0 then ((lookN e 0 1).2, 0) else (0, (lookN e 0 1).1) := rfl
  generalize lookN e 0 1 = r at hl hle hs
  obtain ⟨x, m⟩ := r
  have HL := Lib.hid hl
  have HS := Lib.hid hs
  clear hl h hs
  go_enter Try.func65, Try.ntmps65
  go_wp2_with fail
  refine (HL.out _ (w.heap.size + 1) (by repeat (first | exact Below.refl _ _ | assumption | refine Below.drew ?_ | refine below_drewN ?_ _ | refine Below.alloc ?_ (by first | omega | (simp; omega) | simp) _ | refine Below.setCell ?_ (by first | omega | (simp; omega) | simp) _)) (by omega) (blk_at (by simp))).mono ?_
  rintro e' w1 ⟨rfl, hg1, hw1⟩
  have hb1 : Below w.heap.size w w1 := Below.trans (by repeat (first | exact Below.refl _ _ | assumption | refine Below.drew ?_ | refine below_drewN ?_ _ | refine Below.alloc ?_ (by first | omega | (simp; omega) | simp) _ | refine Below.setCell ?_ (by first | omega | (simp; omega) | simp) _)) (below_of_grown hw1 (by simp) (by simp; omega))
  have hc1 : w1.cell? ⟨w.heap.size + 1, 0, none⟩ = some (.int .i64 m) := hg1.cell 0
  clear hw1
  by_cases hx0 : x = 0
  · subst hx0
    go_wp2
    go_ret2
    exact ⟨by rw [HS.out]; rfl, hb1⟩
  · have hxb : (x != 0) = true := by rw [bne_iff_ne]; exact hx0
    have HSS := Lib.hid (HS.out.trans (if_neg hx0))
    go_wp2
    go_ret2
    exact ⟨by rw [HSS.out]; rfl, hb1⟩
end Go.Proofs.Ytndhbdbfjkmloaa
namespace Go.Proofs.Ytndhbdbfjkmloaa
open Go.RowKit

/-- the cells of an expression at p, as a walk spells them -/
structure Seven (w : World) (p : Addr) (k a b c d : Int) (t : ByteArray) (A : Option Addr) (n cp : Nat) : Prop where
  c0 : w.cell? p = some (.int .i64 k)
  c1 : w.cell? ⟨p.block, p.off + 1, none⟩ = some (.int .u64 a)
  c2 : w.cell? ⟨p.block, p.off + 2, none⟩ = some (.int .u64 b)
  c3 : w.cell? ⟨p.block, p.off + 3, none⟩ = some (.int .u64 c)
  c4 : w.cell? ⟨p.block, p.off + 4, none⟩ = some (.int .u64 d)
  c5 : w.cell? ⟨p.block, p.off + 5, none⟩ = some (.string t)
  c6 : w.cell? ⟨p.block, p.off + 6, none⟩ = some (.slice A n cp)
theorem Seven.of {w : World} {p : Addr} {k a b c d : Int} {t : ByteArray} {A : Option Addr} {n cp : Nat}
    (h : ∀ j u, (exCells k a b c d t A n cp)[j]? = some u → w.cell? (p.add j) = some u) : Seven w p k a b c d t A n cp :=
  ⟨h 0 _ rfl, h 1 _ rfl, h 2 _ rfl, h 3 _ rfl, h 4 _ rfl, h 5 _ rfl, h 6 _ rfl⟩

section
variable {w : World} {B : Nat} {k a b c d : Int} {t : ByteArray} {ks : List Ex} {cs : List Value} {A : Option Addr} {n cp : Nat}
theorem ExIs.shape (h : ExIs w B (.mk k a b c d t ks) cs) : t.size ≤ maxLen ∧ ∃ A cp, cs = exCells k a b c d t A ks.length cp ∧ ks.length ≤ cp ∧ cp ≤ maxLen ∧ (A = none → cp = 0) := by
  cases h with
  | mk _ _ _ _ _ _ _ A cp row ht hl hm hnone hb hr hc => exact ⟨ht, A, cp, rfl, hl, hm, hnone⟩
theorem ExIs.len (h : ExIs w B (.mk k a b c d t ks) (exCells k a b c d t A n cp)) : n = ks.length ∧ t.size ≤ maxLen ∧ n ≤ cp ∧ cp ≤ maxLen ∧ (A = none → cp = 0) := by
  obtain ⟨h1, A', cp', e, h2, h3, h4⟩ := h.shape
  simp only [exCells, List.cons.injEq, Value.slice.injEq, true_and, and_true] at e
  obtain ⟨rfl, rfl, rfl⟩ := e
  exact ⟨rfl, h1, h2, h3, h4⟩
theorem ExIs.kid (h : ExIs w B (.mk k a b c d t ks) (exCells k a b c d t A n cp)) {j : Nat} (hj : j < ks.length) :
    ∃ (ad : Addr) (k' a' b' c' d' : Int) (t' : ByteArray) (ks' : List Ex) (A' : Option Addr) (cp' : Nat), A = some ad ∧ ad.block < B ∧ ks[j]? = some (.mk k' a' b' c' d' t' ks') ∧
      ExIs w B (.mk k' a' b' c' d' t' ks') (exCells k' a' b' c' d' t' A' ks'.length cp') ∧ Seven w (ad.add (j * 7)) k' a' b' c' d' t' A' ks'.length cp' := by
  have hlen := h.len.1
  generalize he : exCells k a b c d t A n cp = cs at h
  cases h with
  | mk _ _ _ _ _ _ _ A0 cp0 row ht hl hm hnone hb hr hc =>
    simp only [exCells, List.cons.injEq, Value.slice.injEq, true_and, and_true] at he
    obtain ⟨rfl, _, rfl⟩ := he
    obtain ⟨ad, rfl, hab⟩ := hb (by omega)
    have hej : ks[j]? = some ks[j] := List.getElem?_eq_getElem hj
    generalize ks[j] = ej at hej
    have hE := hr j ej hej
    have hcc := hc j ej ad hej rfl
    generalize row j = rj at hE hcc
    cases ej with
    | mk k' a' b' c' d' t' ks' =>
    obtain ⟨_, A', cp', rfl, _⟩ := hE.shape
    exact ⟨ad, k', a', b', c', d', t', ks', A', cp', rfl, hab, hej, hE, Seven.of hcc⟩
/-- an expression of one node -/
theorem ExIs.leaf (w : World) (B : Nat) (k a b c d : Int) (t : ByteArray) (ht : t.size ≤ maxLen) : ExIs w B (.mk k a b c d t []) (exCells k a b c d t none 0 0) :=
  .mk k a b c d t [] none 0 (fun _ => []) ht (by simp) (by unfold maxLen; omega) (fun _ => rfl) (fun h => by simp at h) (fun i e h => by simp at h) (fun i e ad h => by simp at h)
end

/-- a rule: its name, its body -/
abbrev Rl := ByteArray × Ex
/-- the rules of a grammar, below block B -/
structure GrIs (w : World) (B : Nat) (g : List Rl) (A : Option Addr) (cp : Nat) (row : Nat → List Value) : Prop where
  le : g.length ≤ cp
  cap : cp ≤ maxLen
  nil : A = none → cp = 0
  lies : 0 < g.length → ∃ ad : Addr, A = some ad ∧ ad.block < B
  small : ∀ (i : Nat) (r : Rl), g[i]? = some r → r.1.size ≤ maxLen
  body : ∀ (i : Nat) (r : Rl), g[i]? = some r → ExIs w B r.2 (row i)
  name : ∀ (i : Nat) (r : Rl) (ad : Addr), g[i]? = some r → A = some ad → w.cell? (ad.add (i * 8)) = some (.string r.1)
  cell : ∀ (i : Nat) (r : Rl) (ad : Addr), g[i]? = some r → A = some ad → ∀ j u, (row i)[j]? = some u → w.cell? ((ad.add (i * 8)).add (j + 1)) = some u

section
variable {w w' : World} {B B' : Nat} {g : List Rl} {A : Option Addr} {cp : Nat} {row : Nat → List Value}
theorem GrIs.keep (h : GrIs w B g A cp row) (hB : B ≤ B') (hk : ∀ p : Addr, p.block < B → w'.cell? p = w.cell? p) : GrIs w' B' g A cp row where
  le := h.le
  cap := h.cap
  nil := h.nil
  lies h0 := by
    obtain ⟨ad, e, h1⟩ := h.lies h0
    exact ⟨ad, e, Nat.lt_of_lt_of_le h1 hB⟩
  small := h.small
  body i r hr := (h.body i r hr).keep hB hk
  name i r ad hr hA := by
    obtain ⟨ad', e', h1⟩ := h.lies (by have := getElem?_lt hr; omega)
    rw [hA] at e'
    injection e' with e'
    subst e'
    rw [hk _ (by rw [add_block]; exact h1)]
    exact h.name i r ad hr hA
  cell i r ad hr hA j u hu := by
    obtain ⟨ad', e', h1⟩ := h.lies (by have := getElem?_lt hr; omega)
    rw [hA] at e'
    injection e' with e'
    subst e'
    rw [hk _ (by rw [add_block, add_block]; exact h1)]
    exact h.cell i r ad hr hA j u hu
theorem GrIs.on (h : GrIs w B g A cp row) (hb : Below B w w') : GrIs w' B g A cp row := h.keep (Nat.le_refl _) fun _ => hb.cell
theorem GrIs.more (h : GrIs w B g A cp row) (hB : B ≤ B') : GrIs w B' g A cp row := h.keep hB fun _ _ => rfl
/-- the cells of a rule at p: its name, and its body's from the next on -/
structure Eight (w : World) (p : Addr) (nm : ByteArray) (k a b c d : Int) (t : ByteArray) (A : Option Addr) (n cp : Nat) : Prop where
  c0 : w.cell? p = some (.string nm)
  c1 : w.cell? ⟨p.block, p.off + 1, none⟩ = some (.int .i64 k)
  c2 : w.cell? ⟨p.block, p.off + 2, none⟩ = some (.int .u64 a)
  c3 : w.cell? ⟨p.block, p.off + 3, none⟩ = some (.int .u64 b)
  c4 : w.cell? ⟨p.block, p.off + 4, none⟩ = some (.int .u64 c)
  c5 : w.cell? ⟨p.block, p.off + 5, none⟩ = some (.int .u64 d)
  c6 : w.cell? ⟨p.block, p.off + 6, none⟩ = some (.string t)
  c7 : w.cell? ⟨p.block, p.off + 7, none⟩ = some (.slice A n cp)
theorem GrIs.rule (h : GrIs w B g A cp row) {j : Nat} (hj : j < g.length) :
    ∃ (ad : Addr) (nm : ByteArray) (k' a' b' c' d' : Int) (t' : ByteArray) (ks' : List Ex) (A' : Option Addr) (cp' : Nat), A = some ad ∧ ad.block < B ∧ g[j]? = some (nm, .mk k' a' b' c' d' t' ks') ∧ nm.size ≤ maxLen ∧
      ExIs w B (.mk k' a' b' c' d' t' ks') (exCells k' a' b' c' d' t' A' ks'.length cp') ∧ Eight w (ad.add (j * 8)) nm k' a' b' c' d' t' A' ks'.length cp' := by
  obtain ⟨ad, rfl, hab⟩ := h.lies (by omega)
  have hej : g[j]? = some g[j] := List.getElem?_eq_getElem hj
  generalize g[j] = ej at hej
  obtain ⟨nm, ej⟩ := ej
  have hE := h.body j _ hej
  have hn := h.name j _ ad hej rfl
  have hcc := h.cell j _ ad hej rfl
  have hs := h.small j _ hej
  generalize row j = rj at hE hcc
  cases ej with
  | mk k' a' b' c' d' t' ks' =>
  obtain ⟨_, A', cp', rfl, _⟩ := hE.shape
  exact ⟨ad, nm, k', a', b', c', d', t', ks', A', cp', rfl, hab, hej, hs, hE, hn, hcc 0 _ rfl, hcc 1 _ rfl, hcc 2 _ rfl, hcc 3 _ rfl, hcc 4 _ rfl, hcc 5 _ rfl, hcc 6 _ rfl⟩
end

/-- where a name is found from a place on; -1: nowhere -/
def fndFrom : List Rl → List UInt8 → Nat → Int
  | [], _, _ => -1
  | r :: rs, s, i => if r.1.data.toList = s then i else fndFrom rs s (i + 1)
def fnd (g : List Rl) (s : List UInt8) : Int := fndFrom g s 0
theorem fndFrom_le : ∀ (g : List Rl) (s : List UInt8) (i : Nat), -1 ≤ fndFrom g s i ∧ fndFrom g s i < i + g.length
  | [], s, i => by simp [fndFrom]; omega
  | r :: rs, s, i => by
    have := fndFrom_le rs s (i + 1)
    unfold fndFrom
    split
    · simp; omega
    · simp; omega
theorem drop_of {α : Type} {l : List α} {j : Nat} {x : α} (h : l[j]? = some x) : l.drop j = x :: l.drop (j + 1) := by
  have hj := getElem?_lt h
  rw [List.drop_eq_getElem_cons hj]
  rw [List.getElem?_eq_getElem hj] at h
  injection h with h
  rw [h]
theorem toList_eq_iff (a b : ByteArray) : (a.toList == b.toList) = decide (a.data.toList = b.data.toList) := by
  rw [ByteArray.toList_eq, ByteArray.toList_eq]
  by_cases h : a.data.toList = b.data.toList
  · rw [h]; simp
  · simp only [h, decide_false, beq_eq_false_iff_ne, ne_eq, not_false_eq_true]
end Go.Proofs.Ytndhbdbfjkmloaa
namespace Go.Proofs.Ytndhbdbfjkmloaa
open Go.RowKit

set_option maxRecDepth 100000 in
theorem find_any {g : List Rl} {A : Option Addr} {cp : Nat} {row : Nat → List Value} {w : World} (h : GrIs w w.heap.size g A cp row) (s : ByteArray) :
    Calls Try.prog 51 #[.agg #[.slice A g.length cp], .string s] w fun e w' => e = .returned (.int .i64 (fnd g s.data.toList)) ∧ Below w.heap.size w w' := by
  have hcap := h.cap
  have hle := h.le
  unfold maxLen at hcap
  have hm : g.length ≤ 9223372036854775807 := by omega
  have H := Lib.hid h
  have HF : Hid (fnd g s.data.toList = fndFrom (g.drop 0) s.data.toList 0) := by exact rfl
  clear h hcap hle
  go_enter Try.func51, Try.ntmps51
  go_wp2
  go_loopw [5, 6, 10] (fun _ _ i wr => ∃ j : Nat, j ≤ g.length ∧ i = .int .i64 j ∧ Hid (fnd g s.data.toList = fndFrom (g.drop j) s.data.toList j) ∧ Below w.heap.size w wr) (fun _ _ i _ => g.length - (intOf i).toNat)
  case atStart => exact ⟨0, by omega, rfl, HF, (by repeat (first | exact Below.refl _ _ | assumption | refine Below.drew ?_ | refine below_drewN ?_ _ | refine Below.alloc ?_ (by first | omega | (simp; omega) | simp) _ | refine Below.setCell ?_ (by first | omega | (simp; omega) | simp) _))⟩
  case round =>
    obtain ⟨j, hj, rfl, HR, hwr⟩ := hrel
    by_cases hjk : j < g.length
    · obtain ⟨ad, nm, k', a', b', c', d', t', ks', A', cp', rfl, hab, hej, hnm, hE, ⟨e0, e1, e2, e3, e4, e5, e6, e7⟩⟩ := (H.out.on hwr).rule hjk
      have hwz := hwr.size
      have HD := Lib.hid (drop_of hej)
      have hq := toList_eq_iff nm s
      clear hE hej
      by_cases hs : nm.data.toList = s.data.toList
      · have HE : Hid (fnd g s.data.toList = (j : Int)) := HR.out.trans (by rw [HD.out, fndFrom, if_pos hs])
        rw [decide_eq_true hs] at hq
        clear hs
        go_wp2
        go_ret
        exact ⟨ret_int HE.out.symm, (by repeat (first | exact Below.refl _ _ | assumption | refine Below.drew ?_ | refine below_drewN ?_ _ | refine Below.alloc ?_ (by first | omega | (simp; omega) | simp) _ | refine Below.setCell ?_ (by first | omega | (simp; omega) | simp) _))⟩
      · have HE : Hid (fnd g s.data.toList = fndFrom (g.drop (j + 1)) s.data.toList (j + 1)) := HR.out.trans (by rw [HD.out, fndFrom, if_neg hs])
        rw [decide_eq_false hs] at hq
        clear hs
        go_wp2
        go_roundw
        case rel => exact ⟨j + 1, by omega, by go_num, HE, (by repeat (first | exact Below.refl _ _ | assumption | refine Below.drew ?_ | refine below_drewN ?_ _ | refine Below.alloc ?_ (by first | omega | (simp; omega) | simp) _ | refine Below.setCell ?_ (by first | omega | (simp; omega) | simp) _))⟩
        case measure => simp [intOf]; omega
    · obtain rfl : j = g.length := by omega
      have HE : Hid (fnd g s.data.toList = -1) := HR.out.trans (by rw [List.drop_length, fndFrom])
      go_wp2
      go_ret
      exact ⟨ret_int HE.out.symm, hwr⟩
end Go.Proofs.Ytndhbdbfjkmloaa
namespace Go.Proofs.Ytndhbdbfjkmloaa
open Go.RowKit Go.Shelf

attribute [local go_sem] Oper.semAt_some

/-- a node as it is handed on -/
structure Nd where
  (k a b c d : Int) (t : ByteArray) (ht : t.size ≤ maxLen) (A : Option Addr) (n cp : Nat)
def Nd.val (x : Nd) : Value := .agg #[.int .i64 x.k, .int .u64 x.a, .int .u64 x.b, .int .u64 x.c, .int .u64 x.d, .string x.t, .slice x.A x.n x.cp]
def Nd.kt (x : Nd) : Int × ByteArray := (x.k, x.t)
mutual
/-- kinds and texts of all nodes, each ahead of its kids -/
def preE : Ex → List (Int × ByteArray)
  | .mk k _ _ _ _ t ks => (k, t) :: preEs ks
def preEs : List Ex → List (Int × ByteArray)
  | [] => []
  | e :: es => preE e ++ preEs es
end

theorem room_none {F : Fence} (hd : F.depth = none) (k : Nat) : F.room k := fun d h => by rw [hd] at h; cases h
theorem round_any {F : Fence} (hd : F.depth = none) {m m' : Nat} {P : Program} {l : Nat} {f : FuncId} {tmps : Array Value} {assign body : Code} {w : World} {R : Ending → World → Prop}
    (h : RoundIn F m P l f tmps assign body w R) : RoundIn F m' P l f tmps assign body w R := ⟨h.1, fun c cs _ => h.2 c cs (room_none hd _)⟩
theorem yield_any {F : Fence} (hd : F.depth = none) {m : Nat} (m' : Nat) {P : Program} {l : Nat} {args : Array Value} {W : World} {R : Ending → World → Prop} (h : YieldAt F m P l args W R) : YieldAt F m' P l args W R := by
  obtain ⟨fn, tmps, assign, body, hy, hR⟩ := h
  exact ⟨fn, tmps, assign, body, hy, round_any hd hR⟩

/-- what lay below n₀ lies, and so does each expression's block -/
structure KeepE (n₀ : Nat) (W W' : World) : Prop where
  below : Below n₀ W W'
  blk : ∀ k cs, Blk W k 27 cs → Blk W' k 27 cs
theorem KeepE.trans {n₀ : Nat} {A B C : World} (h : KeepE n₀ A B) (h' : KeepE n₀ B C) : KeepE n₀ A C := ⟨h.below.trans h'.below, fun k cs hk => h'.blk k cs (h.blk k cs hk)⟩
theorem KeepE.refl (n₀ : Nat) (A : World) : KeepE n₀ A A := ⟨Below.refl _ _, fun _ _ h => h⟩
theorem KeepE.alloc {n₀ : Nat} {A B : World} (h : KeepE n₀ A B) (hn : n₀ ≤ A.heap.size) (o : Obj) : KeepE n₀ A (B.alloc o) := ⟨h.below.alloc (Nat.le_trans hn h.below.size) o, fun k cs hk => (h.blk k cs hk).alloc o⟩

set_option maxRecDepth 100000 in
set_option maxHeartbeats 2000000 in
theorem all_in (F : Fence) (hd : F.depth = none) (hfn : F.fn 91) (hro : F.round = none) (l n₀ N : Nat) (J Jx : List Nd → World → Prop)
    (hJ : ∀ pre W o, J pre W → J pre (W.alloc o)) (hn : ∀ pre W, J pre W → n₀ ≤ W.heap.size)
    (hY : ∀ m pre x W, J pre W → pre.length < N → YieldAt F m Try.prog l #[x.val] W fun e W' =>
      (e = .returned (.bool true) ∧ J (pre ++ [x]) W' ∧ KeepE n₀ W W') ∨ (e = .returned (.bool false) ∧ Jx (pre ++ [x]) W')) (e : Ex) :
    ∀ (n : Nat) (cs : List Value) (pre : List Nd) (W : World), ExIs W n₀ e cs → J pre W → pre.length + (preE e).length ≤ N →
      CallsIn F n Try.prog 91 #[.agg cs.toArray, .func (.yield l) #[] #[]] W fun e' W' =>
        (e' = .returned (.bool true) ∧ (∃ ys : List Nd, ys.map Nd.kt = preE e ∧ J (pre ++ ys) W') ∧ KeepE n₀ W W') ∨ (e' = .returned (.bool false) ∧ ∃ q, Jx (pre ++ q) W') := by
  refine Ex.ind (P := fun e => ∀ (n : Nat) (cs : List Value) (pre : List Nd) (W : World), ExIs W n₀ e cs → J pre W → pre.length + (preE e).length ≤ N →
      CallsIn F n Try.prog 91 #[.agg cs.toArray, .func (.yield l) #[] #[]] W fun e' W' =>
        (e' = .returned (.bool true) ∧ (∃ ys : List Nd, ys.map Nd.kt = preE e ∧ J (pre ++ ys) W') ∧ KeepE n₀ W W') ∨ (e' = .returned (.bool false) ∧ ∃ q, Jx (pre ++ q) W')) ?_ e
  intro k a b c d t ks ih n cs pre W hE hJ0 hN
  have hdd : ∀ k : Nat, (F.depth.isSome = true → 1 ≤ k) := fun k h => by rw [hd] at h; cases h
  obtain ⟨ht, A, cp, rfl, hkc, hcm, _⟩ := hE.shape
  have hW0 := hn _ _ hJ0
  have hm : ks.length ≤ 9223372036854775807 := by unfold maxLen at hcm; omega
  have hPE : preE (.mk k a b c d t ks) = (k, t) :: preEs ks := by rw [preE]
  have hl1 : pre.length < N := by rw [hPE] at hN; simp at hN; omega
  have hJ1 := hJ _ _ (.cells #[.int .i64 k, .int .u64 a, .int .u64 b, .int .u64 c, .int .u64 d, .string t, .slice A ks.length cp] 27) hJ0
  obtain ⟨x0, hxv, hxk⟩ : ∃ x : Nd, x.val = .agg #[.int .i64 k, .int .u64 a, .int .u64 b, .int .u64 c, .int .u64 d, .string t, .slice A ks.length cp] ∧ x.kt = (k, t) := ⟨⟨k, a, b, c, d, t, ht, A, ks.length, cp⟩, rfl, rfl⟩
  have hyy := hY (n - 1) pre x0 _ hJ1 hl1
  rw [hxv] at hyy
  obtain ⟨fn, tmps, assign, body, hy, hR⟩ := hyy
  have HX := Lib.hid hxk
  clear hxv hxk
  have IH := Lib.hid ih
  have HE := Lib.hid hE
  have HPE := Lib.hid hPE
  have HN := Lib.hid hN
  clear ih hE hPE hN hJ1 hkc hcm ht
  unfold exCells at *
  refine callsIn_of_wp Try.func91 rfl hfn ?_ hro
  simp only [Try.ntmps91, List.size_toArray, List.length_cons, List.length_nil, Nat.reduceAdd, Nat.reduceSub, Array.replicate_succ, Array.replicate_zero, List.push_toArray, List.append_toArray, List.nil_append, List.cons_append]
  gi_wp2
  refine hR.mono ?_
  clear hR hy
  rintro e' W1 (⟨rfl, hJ2, hb1⟩ | ⟨rfl, hx1⟩)
  · have hb2 : KeepE n₀ W W1 := KeepE.trans ((KeepE.refl _ _).alloc hW0 _) hb1
    have hx3 : W1.cell? ⟨W.heap.size, 6, none⟩ = some (.slice A ks.length cp) := (hb1.blk _ _ (blk_at rfl)).cell 6
    clear hb1
    gi_wp2
    gi_loopw [6, 14] (fun _ i wr => ∃ (j : Nat) (ys : List Nd), j ≤ ks.length ∧ i = .int .i64 j ∧ Hid (ys.map Nd.kt ++ preEs (ks.drop j) = preE (.mk k a b c d t ks)) ∧ J (pre ++ ys) wr ∧ KeepE n₀ W wr) (fun _ i _ => ks.length - (intOf i).toNat)
    case atStart => exact ⟨0, [x0], by omega, rfl, by show _ = _; rw [HPE.out]; simp [HX.out], hJ2, hb2⟩
    case round =>
      obtain ⟨j, ys, hj, rfl, HY, hJw, hbw⟩ := hrel
      by_cases hjk : j < ks.length
      · obtain ⟨ad, k', a', b', c', d', t', ks', A', cp', rfl, hab, hej, hE', ⟨e0, e1, e2, e3, e4, e5, e6⟩⟩ := (HE.out.on hbw.below).kid hjk
        have hnw := hn _ _ hJw
        have HD := Lib.hid (drop_of hej)
        have hlen : (pre ++ ys).length + (preE (.mk k' a' b' c' d' t' ks')).length ≤ N := by
          have h1 := HN.out
          have h2 := congrArg List.length HY.out
          rw [HD.out, preEs] at h2
          simp at h2 ⊢
          omega
        have hcall := fun (o : Obj) => IH.out _ (List.mem_of_getElem? hej) (n - 1) _ (pre ++ ys) (wr.alloc o) (hE'.on ((Below.refl _ _).alloc hnw o)) (hJ _ _ o hJw) hlen
        have HCall := Lib.hid hcall
        clear hcall hej hE' hlen
        unfold exCells at HCall
        gi_wp2_with ((try refine ⟨hdd _, ?_⟩); gi_at_call 91; refine (HCall.out _).mono ?_; rintro e' w2 (⟨rfl, ⟨zs, hz, hJ3⟩, hb3⟩ | ⟨rfl, q, hq⟩))
        · have hb4 : KeepE n₀ W w2 := KeepE.trans (hbw.alloc hW0 _) hb3
          clear hb3
          go_roundw
          case rel => exact ⟨j + 1, ys ++ zs, by omega, by go_num, by show _ = _; rw [← HY.out, HD.out, preEs, List.map_append, hz, List.append_assoc], by rw [← List.append_assoc]; exact hJ3, hb4⟩
          case measure => simp [intOf]; omega
        · go_ret
          exact .inr ⟨rfl, _, by rw [← List.append_assoc]; exact hq⟩
      · obtain rfl : j = ks.length := by omega
        gi_wp2
        go_ret
        exact .inl ⟨rfl, ⟨ys, by have := HY.out; rw [List.drop_length, preEs, List.append_nil] at this; exact this, hJw⟩, hbw⟩
  · gi_wp2
    go_ret
    exact .inr ⟨rfl, _, hx1⟩
end Go.Proofs.Ytndhbdbfjkmloaa
namespace Go.Proofs.Ytndhbdbfjkmloaa
open Go.RowKit

mutual
def nodes : Ex → Nat
  | .mk _ _ _ _ _ _ ks => 1 + nodesAll ks
def nodesAll : List Ex → Nat
  | [] => 0
  | e :: es => nodes e + nodesAll es
end

theorem looks_ok : ∀ (ks : List Ex) (n deep : Nat), (∀ e ∈ ks, ∀ n deep, (lookN e n deep).1 = 0 → ∀ n' deep', n' ≤ n → deep' ≤ deep → lookN e n' deep' = (0, n' + nodes e)) → (looks ks n deep).1 = 0 →
    ∀ n' deep', n' ≤ n → deep' ≤ deep → looks ks n' deep' = (0, n' + nodesAll ks) ∧ ∀ e ∈ ks, ∀ d, d ≤ deep → lookN e 0 d = (0, nodes e)
  | [], n, deep, _, _ => fun n' deep' _ _ => ⟨by simp [looks, nodesAll], fun e he => by cases he⟩
  | e :: es, n, deep, h, h0 => fun n' deep' hn hd => by
    have he := h e (by simp) n deep
    unfold looks at h0
    split at h0
    · rename_i hz
      have h1 := he hz n' deep' hn hd
      have h2 := he hz n deep (Nat.le_refl _) (Nat.le_refl _)
      rw [h2] at h0
      have h3 := looks_ok es (n + nodes e) deep (fun e' he' => h e' (by simp [he'])) h0 (n' + nodes e) deep' (by omega) hd
      refine ⟨?_, ?_⟩
      · unfold looks
        rw [h1, if_pos rfl, h3.1, nodesAll, Nat.add_assoc]
      · intro e' he' d hd'
        rcases List.mem_cons.1 he' with rfl | he'
        · have := he hz 0 d (Nat.zero_le _) hd'
          rw [this, Nat.zero_add]
        · exact h3.2 e' he' d hd'
    · rename_i hz
      exact absurd h0 hz
theorem look_ok (e : Ex) : ∀ n deep, (lookN e n deep).1 = 0 → ∀ n' deep', n' ≤ n → deep' ≤ deep → lookN e n' deep' = (0, n' + nodes e) := by
  refine Ex.ind (P := fun e => ∀ n deep, (lookN e n deep).1 = 0 → ∀ n' deep', n' ≤ n → deep' ≤ deep → lookN e n' deep' = (0, n' + nodes e)) ?_ e
  intro k a b c d t ks ih n deep h0 n' deep' hn hd
  unfold lookN at h0
  split at h0
  · simp at h0
  · split at h0
    · simp at h0
    · split at h0
      · simp at h0
      · rename_i g1 g2 g3
        have h3 := (looks_ok ks (n + 1) (deep + 1) ih h0 (n' + 1) (deep' + 1) (by omega) (by omega)).1
        unfold lookN
        rw [if_neg (by omega), if_neg (by omega), if_neg g3, h3, nodes, Nat.add_assoc]
theorem size_bad {e : Ex} (h : checkE e ≠ 0) : sizeE e = (0, checkE e) := by
  unfold sizeE checkE at *
  rw [if_neg h]

end Go.Proofs.Ytndhbdbfjkmloaa
namespace Go.Proofs.Ytndhbdbfjkmloaa
open Go.RowKit Go.Shelf

attribute [local go_sem] Oper.semAt_some

set_option maxRecDepth 100000 in
set_option maxHeartbeats 1000000 in
theorem all1_in (F : Fence) (hd : F.depth = none) (n : Nat) (h1 : F.fn 90) (h2 : F.fn 91) (hro : F.round = none) (l Bt n₀ : Nat) (e : Ex) (cs : List Value) (J Jx : List Nd → World → Prop)
    (hJ : ∀ pre W o, J pre W → J pre (W.alloc o)) (hn : ∀ pre W, J pre W → n₀ ≤ W.heap.size)
    (hY : ∀ pre x W, J pre W → pre.length < (preE e).length → YieldAt F (n - 1) Try.prog l #[x.val] W fun e W' =>
      (e = .returned (.bool true) ∧ J (pre ++ [x]) W' ∧ KeepE n₀ W W') ∨ (e = .returned (.bool false) ∧ Jx (pre ++ [x]) W'))
    (W : World) (hB : Blk W Bt 27 cs.toArray) (hE : ExIs W n₀ e cs) (h0 : J [] W) :
    CallsIn F n Try.prog 90 #[.func (.yield l) #[] #[], .pointer (some ⟨Bt, 0, none⟩)] W fun e' W' => (∃ v, e' = .returned v) ∧
      ((∃ ys : List Nd, ys.map Nd.kt = preE e ∧ J ys W') ∨ (∃ pre : List Nd, True ∧ Jx pre W')) := by
  have hdd : ∀ k : Nat, (F.depth.isSome = true → 1 ≤ k) := fun k h => by rw [hd] at h; cases h
  have hp := all_in F hd h2 hro l n₀ (preE e).length J Jx hJ hn (fun m pre x W hj hl => yield_any hd m (hY pre x W hj hl)) e (n - 1) cs [] W hE h0 (by simp)
  cases e with
  | mk k a b c d t ks =>
  obtain ⟨ht, A, cp, rfl, hkc, hcm, _⟩ := hE.shape
  have x0 : W.cell? ⟨Bt, 0, none⟩ = some (.int .i64 k) := hB.cell 0
  have x1 : W.cell? ⟨Bt, 1, none⟩ = some (.int .u64 a) := hB.cell 1
  have x2 : W.cell? ⟨Bt, 2, none⟩ = some (.int .u64 b) := hB.cell 2
  have x3 : W.cell? ⟨Bt, 3, none⟩ = some (.int .u64 c) := hB.cell 3
  have x4 : W.cell? ⟨Bt, 4, none⟩ = some (.int .u64 d) := hB.cell 4
  have x5 : W.cell? ⟨Bt, 5, none⟩ = some (.string t) := hB.cell 5
  have x6 : W.cell? ⟨Bt, 6, none⟩ = some (.slice A ks.length cp) := hB.cell 6
  unfold exCells at hp
  have HP := Lib.hid hp
  clear hp hB hE
  refine callsIn_of_wp Try.func90 rfl h1 ?_ hro
  simp only [Try.ntmps90, List.size_toArray, List.length_cons, List.length_nil, Nat.reduceAdd, Nat.reduceSub, Array.replicate_succ, Array.replicate_zero, List.push_toArray, List.append_toArray, List.nil_append, List.cons_append]
  gi_wp2_with ((try refine ⟨hdd _, ?_⟩); gi_at_call 91; refine HP.out.mono ?_; rintro e W1 (⟨rfl, ⟨ys, hy, hJ1⟩, _⟩ | ⟨rfl, q, hx⟩))
  · go_end0
    exact ⟨⟨_, rfl⟩, .inl ⟨ys, hy, by simpa using hJ1⟩⟩
  · go_end0
    exact ⟨⟨_, rfl⟩, .inr ⟨_, trivial, hx⟩⟩

set_option maxHeartbeats 1000000 in
theorem allf_in (F : Fence) (n : Nat) (h4 : F.fn 81) (hro : F.round = none) (k a b c d : Int) (t : ByteArray) (A : Option Addr) (m cp : Nat) (w : World) :
    CallsIn F n Try.prog 81 #[.agg #[.int .i64 k, .int .u64 a, .int .u64 b, .int .u64 c, .int .u64 d, .string t, .slice A m cp]] w fun e w' =>
      e = .returned (.func (.func 90) #[] #[.pointer (some ⟨w.heap.size, 0, none⟩)]) ∧ w' = w.alloc (.cells #[.int .i64 k, .int .u64 a, .int .u64 b, .int .u64 c, .int .u64 d, .string t, .slice A m cp] 27) := by
  refine callsIn_of_wp Try.func81 rfl h4 ?_ hro
  simp only [Try.ntmps81, List.size_toArray, List.length_cons, List.length_nil, Nat.reduceAdd, Nat.reduceSub, Array.replicate_succ, Array.replicate_zero, List.push_toArray, List.append_toArray, List.nil_append, List.cons_append]
  gi_wp2
  go_ret
  exact ⟨rfl, rfl⟩

theorem keepE_put {n₀ B : Nat} (h : n₀ ≤ B) (W : World) (l : Nat) (o o' : Obj) (hl : B ≤ l) (ho : W.heap[l]? = some o) (hc : o.isCells = false) (_ : o.isWalk = false) : KeepE n₀ W (W.putObj l o') :=
  ⟨⟨rfl, rfl, rfl, by simp, fun k hk => World.putObj_heap_other (by omega)⟩, fun k cs hk => by
    have hk' : W.heap[k]? = some (.cells cs 27 (0, 0)) := hk
    have hne : k ≠ l := fun e => by subst e; rw [hk'] at ho; cases ho; cases hc
    exact (World.putObj_heap_other hne).trans hk⟩
/-- a step that turns one block that is no expression's -/
theorem KeepE.grown {n₀ : Nat} {W W' : World} {row : Option Nat} (hb : Below n₀ W W') (hg : W.grownBy W' row) (hr : ∀ r cs, row = some r → ¬ Blk W r 27 cs) : KeepE n₀ W W' :=
  ⟨hb, fun k cs hk => (hg.block k hk.lt (fun e => hr k cs e.symm hk)).trans hk⟩

/-- expr.All(e) hands on all nodes of e -/
theorem all_stops (F : Fence) (hd : F.depth = none) (n : Nat) (h1 : F.fn 90) (h2 : F.fn 91) (hro : F.round = none) (Bt n₀ : Nat) (e : Ex) (cs : List Value) (w : World) (hn₀ : n₀ ≤ w.heap.size)
    (hB : Blk w Bt 27 cs.toArray) (hE : ExIs w n₀ e cs) :
    SeqStopsK F n Try.prog 90 #[.pointer (some ⟨Bt, 0, none⟩)] (fun x : Nd => #[x.val]) (KeepE n₀) (fun ys => ys.map Nd.kt = preE e) (fun _ => True) (preE e).length w := by
  intro l J Jx W hW hJ _ hY h0
  refine (all1_in F hd n h1 h2 hro l Bt n₀ e cs (fun pre W => J pre W ∧ n₀ ≤ W.heap.size ∧ AbidesFrom W.heap.size J) Jx (fun pre W1 o h => ?_) (fun pre W1 h => h.2.1) (fun pre x W1 hj hl => ?_) W (hB.below hW hB.lt) (hE.on (hW.mono hn₀)) ⟨h0, Nat.le_trans hn₀ hW.size, hJ⟩).mono ?_
  · refine ⟨h.2.2 _ _ _ none h.1 (World.grownBy_alloc _ _ _) (fun r e => by cases e), by have := h.2.1; simp; omega, fun s X Y row hs hg hr => h.2.2 s X Y row hs hg fun r e => ?_⟩
    have := hr r e
    exact ⟨by have := this.1; simp at this; omega, this.2⟩
  · refine YieldAt.mono (hY pre x W1 hj.1 hl) fun e W2 h => h.elim (fun ⟨he, hj2, hk⟩ => .inl ⟨he, ⟨hj2, Nat.le_trans hj.2.1 hk.below.size, fun s X Y row hs hg hr => hj.2.2 s X Y row hs hg fun r e => ?_⟩, hk⟩) .inr
    have := hr r e
    exact ⟨Nat.le_trans hk.below.size this.1, this.2⟩
  · rintro e' W' ⟨hv, h | h⟩
    · obtain ⟨ys, hy, hj⟩ := h
      exact ⟨hv, .inl ⟨ys, hy, hj.1⟩⟩
    · exact ⟨hv, .inr h⟩

theorem own_not_blk {w : World} {base : Nat} {e : TypeId} {size : Nat} {v : Value} {n : Nat} {xs : List Value} (h : w.ownsRow base e size v n xs) {g : Nat} {t : TypeId} {cs : Array Value} (hb : Blk w g t cs) (hte : t ≠ e) : some g ≠ v.ownBlock := by
  rcases h.2 with ⟨rfl, _⟩ | ⟨g', cap, cur, rfl, _, hgb, _⟩
  · simp [Value.ownBlock]
  · intro e'
    obtain rfl : g = g' := by simpa [Value.ownBlock] using e'
    have := (show w.heap[g]? = _ from hb).symm.trans hgb
    simp at this
    exact hte this.2
instance lawfulBytes : LawfulBEq ByteArray where
  rfl := by
    intro a
    obtain ⟨a⟩ := a
    show (a == a) = true
    simp
  eq_of_beq := by
    intro a b h
    obtain ⟨a⟩ := a
    obtain ⟨b⟩ := b
    have h' : (a == b) = true := h
    rw [eq_of_beq h']
def refStep (acc : List ByteArray) (p : Int × ByteArray) : List ByteArray := if p.1 = 4 ∧ p.2 ∉ acc then acc ++ [p.2] else acc
/-- names that an expression refers to, in order, each once -/
def refsL (l : List (Int × ByteArray)) : List ByteArray := l.foldl refStep []
def refsE (e : Ex) : List ByteArray := refsL (preE e)
theorem refsL_snoc (l : List (Int × ByteArray)) (p : Int × ByteArray) : refsL (l ++ [p]) = refStep (refsL l) p := by simp [refsL]
theorem refs_len (l : List (Int × ByteArray)) : (refsL l).length ≤ l.length := by
  suffices h : ∀ (l : List (Int × ByteArray)) acc, (l.foldl refStep acc).length ≤ acc.length + l.length by simpa [refsL] using h l []
  intro l
  induction l with
  | nil => intro acc; simp
  | cons p l ih =>
    intro acc
    have := ih (refStep acc p)
    have h2 : (refStep acc p).length ≤ acc.length + 1 := by
      unfold refStep
      split <;> simp
    simp
    omega
section
variable {H : Type}
/-- the map 'seen', as it reads -/
def seenR : List ByteArray → DataW H
  | [] => .map []
  | s :: l => (seenR l).put (.string s.data.toList) (.lit (.int .i64 1))
def seenD (acc : List ByteArray) : DataW H := seenR acc.reverse
theorem seenR_map : ∀ l : List ByteArray, Maps.IsMap (seenR (H := H) l)
  | [] => Maps.isMap_empty
  | _ :: l => (seenR_map l).put _ _
theorem seenR_at (s : ByteArray) : ∀ l : List ByteArray, (seenR (H := H) l).atKey (.string s.data.toList) (.lit (.int .i64 0)) = .lit (.int .i64 (if s ∈ l then 1 else 0))
  | [] => by simp [seenR, DataW.atKey]
  | x :: l => by
    unfold seenR
    by_cases h : s = x
    · subst h
      rw [Maps.atKey_put_same (seenR_map l) (by simp [WideAt.IsKeyLit])]
      simp
    · have hne : (Lit.string s.data.toList) ≠ .string x.data.toList := by
        intro e
        injection e with e
        exact h (by obtain ⟨⟨u⟩⟩ := s; obtain ⟨⟨v⟩⟩ := x; simp at e; rw [e])
      rw [Maps.atKey_put_other hne, seenR_at s l]
      simp [h]
theorem seenD_at (s : ByteArray) (acc : List ByteArray) : (seenD (H := H) acc).atKey (.string s.data.toList) (.lit (.int .i64 0)) = .lit (.int .i64 (if s ∈ acc then 1 else 0)) := by
  unfold seenD
  rw [seenR_at]
  simp
theorem seenD_snoc (s : ByteArray) (acc : List ByteArray) : seenD (H := H) (acc ++ [s]) = (seenD acc).put (.string s.data.toList) (.lit (.int .i64 1)) := by
  simp [seenD, seenR]
end
theorem preEs_len (ks : List Ex) (h : ∀ e ∈ ks, (preE e).length = nodes e) : (preEs ks).length = nodesAll ks := by
  induction ks with
  | nil => simp [preEs, nodesAll]
  | cons e es ih => simp [preEs, nodesAll, h e (by simp), ih (fun e he => h e (by simp [he]))]
theorem preE_len (e : Ex) : (preE e).length = nodes e := by
  refine Ex.ind (P := fun e => (preE e).length = nodes e) ?_ e
  intro k a b c d t ks ih
  simp [preE, nodes, preEs_len ks ih]
  omega
theorem nodes_le {e : Ex} (h : checkE e = 0) : nodes e ≤ 60 := by
  have h1 := look_ok _ 0 1 h 0 1 (Nat.le_refl _) (Nat.le_refl _)
  have h2 := (lookN_le e 0 1 (by omega)).2 h
  rw [h1] at h2
  simpa using h2
end Go.Proofs.Ytndhbdbfjkmloaa
