/- What (*expr.looker).look, expr.Check and expr.Size answer. -/
import Derived.Test.YtndhbdbfjkmloaaDoorEx2
import Derived.Test.YtndhbdbfjkmloaaDoorEx3
namespace Go.Proofs.YtndhbdbfjkmloaaDoor
open Go.RowKit

mutual
/-- how a looker that has counted n goes through a node at this depth: what went wrong, and what it has counted then -/
def lookN : Ex → Nat → Nat → Int × Nat
  | .mk k a b c d t ks, n, deep =>
    if 60 < n + 1 then (2, n + 1) else if 12 < deep then (5, n + 1) else if fitB k a b c d t.data.toList ks.length = false then (3, n + 1) else looks ks (n + 1) (deep + 1)
def looks : List Ex → Nat → Nat → Int × Nat
  | [], n, _ => (0, n)
  | e :: es, n, deep => if (lookN e n deep).1 = 0 then looks es (lookN e n deep).2 deep else lookN e n deep
end

theorem fit_len {k a b c d : Int} {t : List UInt8} {n : Nat} (h : fitB k a b c d t n = true) : n ≤ 8 := by
  unfold fitB at h
  split at h
  · cases h
  · rename_i lo hi hl
    have h2 : n ≤ hi := by
      simp only [Bool.and_eq_true, decide_eq_true_eq] at h
      exact h.2
    have h3 : hi ≤ 8 := by
      unfold lims at hl
      repeat' split at hl
      all_goals (first | cases hl | skip) <;> omega
    omega
theorem looks_le : ∀ (ks : List Ex) (n deep : Nat), (∀ e ∈ ks, ∀ n deep, n ≤ 60 → (lookN e n deep).2 ≤ 61 ∧ ((lookN e n deep).1 = 0 → (lookN e n deep).2 ≤ 60)) → n ≤ 60 → (looks ks n deep).2 ≤ 61 ∧ ((looks ks n deep).1 = 0 → (looks ks n deep).2 ≤ 60)
  | [], n, deep, _, hn => by simp [looks]; omega
  | e :: es, n, deep, h, hn => by
    have h1 := h e (by simp) n deep hn
    unfold looks
    split
    · rename_i h0
      exact looks_le es _ deep (fun e' he' => h e' (by simp [he'])) (h1.2 h0)
    · exact h1
theorem lookN_le (e : Ex) : ∀ n deep, n ≤ 60 → (lookN e n deep).2 ≤ 61 ∧ ((lookN e n deep).1 = 0 → (lookN e n deep).2 ≤ 60) := by
  refine Ex.ind (P := fun e => ∀ n deep, n ≤ 60 → (lookN e n deep).2 ≤ 61 ∧ ((lookN e n deep).1 = 0 → (lookN e n deep).2 ≤ 60)) ?_ e
  intro k a b c d t ks ih n deep hn
  unfold lookN
  split
  · exact ⟨by simp; omega, fun h => by simp at h⟩
  · split
    · exact ⟨by simp; omega, fun h => by simp at h⟩
    · split
      · exact ⟨by simp; omega, fun h => by simp at h⟩
      · exact looks_le ks _ _ ih (by omega)

/-- what look leaves -/
def LookQ (g : Nat) (r : Int × Nat) (w : World) (e : Ending) (w' : World) : Prop :=
  e = .returned (.int .i64 r.1) ∧ Blk w' g 68 #[.int .i64 r.2] ∧ w.grownBy w' (some g)

theorem grown_cells {w w' : World} {g : Nat} (h : w.grownBy w' (some g)) {B : Nat} (hB : B ≤ g) (hg : g < w.heap.size) (p : Addr) (hp : p.block < B) : w'.cell? p = w.cell? p :=
  World.cell?_of_block (h.block p.block (by omega) fun e => by injection e with e; omega)

theorem grown_set {a w : World} {g i : Nat} (h : a.grownBy w (some g)) (u : Value) : a.grownBy (w.setCell ⟨g, i, none⟩ u) (some g) :=
  ⟨h.os, h.tape, h.output, by simpa [World.setCell] using h.size, fun k hk hne => (Below.heap_setCell w ⟨g, i, none⟩ u k (by rintro rfl; exact hne rfl)).trans (h.block k hk hne)⟩
theorem grown_alloc {a w : World} {r : Option Nat} (h : a.grownBy w r) (o : Obj) : a.grownBy (w.alloc o) r :=
  ⟨h.os, h.tape, h.output, by have := h.size; simp; omega, fun k hk hne => (Below.heap_alloc w o k (Nat.lt_of_lt_of_le hk h.size)).trans (h.block k hk hne)⟩
theorem grown_below {a w w' : World} {r : Option Nat} (h : a.grownBy w r) (hb : Below w.heap.size w w') : a.grownBy w' r :=
  ⟨hb.os.trans h.os, hb.tape.trans h.tape, hb.output.trans h.output, Nat.le_trans h.size hb.size, fun k hk hne => (hb.block k (Nat.lt_of_lt_of_le hk h.size)).trans (h.block k hk hne)⟩
theorem grown_trans {a w w' : World} {r : Option Nat} (h : a.grownBy w r) (h' : w.grownBy w' r) : a.grownBy w' r :=
  ⟨h'.os.trans h.os, h'.tape.trans h.tape, h'.output.trans h.output, Nat.le_trans h.size h'.size, fun k hk hne => (h'.block k (Nat.lt_of_lt_of_le hk h.size) hne).trans (h.block k hk hne)⟩

set_option maxRecDepth 100000 in
theorem look_any (e : Ex) : ∀ (cs : List Value) (w : World) (g n deep B : Nat), ExIs w B e cs → B ≤ g → Blk w g 68 #[.int .i64 n] → n ≤ 60 → deep ≤ 13 →
    Calls Tryd.prog 31 #[.pointer (some ⟨g, 0, none⟩), .agg cs.toArray, .int .i64 deep] w (LookQ g (lookN e n deep) w) := by
  refine Ex.ind (P := fun e => ∀ (cs : List Value) (w : World) (g n deep B : Nat), ExIs w B e cs → B ≤ g → Blk w g 68 #[.int .i64 n] → n ≤ 60 → deep ≤ 13 →
    Calls Tryd.prog 31 #[.pointer (some ⟨g, 0, none⟩), .agg cs.toArray, .int .i64 deep] w (LookQ g (lookN e n deep) w)) ?_ e
  intro k a b c d t ks ih cs w g n deep B he hB hg hn hd
  cases he with
  | mk _ _ _ _ _ _ _ A cp row ht hl hm hnone hb hr hc =>
  have IH := Lib.hid ih
  have HRow := Lib.hid hr
  have HC := Lib.hid hc
  have HBk := Lib.hid hb
  have hgl := hg.lt
  have hc0 : w.cell? ⟨g, 0, none⟩ = some (.int .i64 n) := hg.cell 0
  have hf0 := hg.frozen 0
  clear ih hr hc hb hnone
  have HF : Hid (lookN (.mk k a b c d t ks) n deep = if 60 < n + 1 then (2, n + 1) else if 12 < deep then (5, n + 1) else if fitB k a b c d t.data.toList ks.length = false then (3, n + 1) else looks ks (n + 1) (deep + 1)) := by
    show _ = _
    rw [lookN]
  by_cases h60 : 60 < n + 1
  · have HFF : Hid (lookN (.mk k a b c d t ks) n deep = (2, n + 1)) := HF.out.trans (if_pos h60)
    go_enter Tryd.func31, Tryd.ntmps31
    go_wp2
    go_ret
    exact ⟨by rw [HFF.out]; rfl, (by rw [HFF.out]; exact (hg.set_ 0 _).alloc _), (by first | exact grown_alloc (grown_set (World.grownBy.refl _ _) _) _)⟩
  by_cases h12 : 12 < deep
  · have HFF : Hid (lookN (.mk k a b c d t ks) n deep = (5, n + 1)) := HF.out.trans ((if_neg h60).trans (if_pos h12))
    go_enter Tryd.func31, Tryd.ntmps31
    go_wp2
    go_ret
    exact ⟨by rw [HFF.out]; rfl, (by rw [HFF.out]; exact (hg.set_ 0 _).alloc _), (by first | exact grown_alloc (grown_set (World.grownBy.refl _ _) _) _)⟩
  cases hfit : fitB k a b c d t.data.toList ks.length
  · have HFF : Hid (lookN (.mk k a b c d t ks) n deep = (3, n + 1)) := HF.out.trans ((if_neg h60).trans ((if_neg h12).trans (if_pos hfit)))
    have HFit := Lib.hid hfit
    clear hfit
    go_enter Tryd.func31, Tryd.ntmps31
    go_wp2_with fail
    refine (fit_any k a b c d t A ks.length cp _).mono ?_
    rw [HFit.out]
    rintro e w1 ⟨rfl, hb1⟩
    have hg1 : Blk w1 g 68 #[.int .i64 ((n : Int) + 1)] := ((hg.set_ 0 _).alloc _).below hb1 (by simp; omega)
    have hw1 : w.grownBy w1 (some g) := grown_below (grown_alloc (grown_set (World.grownBy.refl _ _) _) _) hb1
    clear hb1
    go_wp2
    go_ret
    exact ⟨by rw [HFF.out]; rfl, (by rw [HFF.out]; exact hg1), hw1⟩
  have h8 := fit_len hfit
  have HFF : Hid (lookN (.mk k a b c d t ks) n deep = looks ks (n + 1) (deep + 1)) := HF.out.trans ((if_neg h60).trans ((if_neg h12).trans (if_neg (by rw [hfit]; decide))))
  have HFit := Lib.hid hfit
  clear hfit
  go_enter Tryd.func31, Tryd.ntmps31
  go_wp2_with fail
  refine (fit_any k a b c d t A ks.length cp _).mono ?_
  rw [HFit.out]
  rintro e w1 ⟨rfl, hb1⟩
  have hg1 : Blk w1 g 68 #[.int .i64 ((n : Int) + 1)] := ((hg.set_ 0 _).alloc _).below hb1 (by simp; omega)
  have hw1 : w.grownBy w1 (some g) := grown_below (grown_alloc (grown_set (World.grownBy.refl _ _) _) _) hb1
  have hx6 : w1.cell? ⟨w.heap.size, 6, none⟩ = some (.slice A ks.length cp) := by
    rw [hb1.cell (p := ⟨w.heap.size, 6, none⟩) (by simp)]
    exact (blk_at (by simp)).cell 6
  clear hb1 HFit
  go_wp2
  go_loopw [8, 9, 33] (fun _ _ i wr => ∃ j m : Nat, j ≤ ks.length ∧ m ≤ 60 ∧ i = .int .i64 j ∧ Hid (lookN (.mk k a b c d t ks) n deep = looks (ks.drop j) m (deep + 1)) ∧ Blk wr g 68 #[.int .i64 m] ∧ w.grownBy wr (some g)) (fun _ _ i _ => ks.length - (intOf i).toNat)
  case atStart => exact ⟨0, n + 1, by omega, by omega, rfl, HFF, hg1, hw1⟩
  case round =>
    obtain ⟨j, m, hj, hm60, rfl, HR, hgr, hwr⟩ := hrel
    by_cases hjk : j < ks.length
    · have hej : ks[j]? = some ks[j] := List.getElem?_eq_getElem hjk
      generalize ks[j] = ej at hej
      obtain ⟨ad, rfl, hab⟩ := HBk.out (by omega)
      have hgrl := hgr.lt
      have hej2 := (HRow.out j ej hej).keep (Nat.le_refl _) (fun p hp => grown_cells hwr hB hgl p hp)
      have hcj := HC.out j ej ad hej rfl
      have hmem := List.mem_of_getElem? hej
      have HD : Hid (ks.drop j = ej :: ks.drop (j + 1)) := by
        show _ = _
        rw [List.drop_eq_getElem_cons hjk]
        rw [List.getElem?_eq_getElem hjk] at hej
        injection hej with hej
        rw [hej]
      generalize row j = rj at hej2 hcj
      cases ej with
      | mk k' a' b' c' d' t' ks' =>
      have hej3 := hej2
      cases hej2 with
      | mk _ _ _ _ _ _ _ A' cp' row' ht' hl' hm' hnone' hb' hr' hc' =>
      have e0 : wr.cell? (ad.add (j * 7)) = some (.int .i64 k') := by
        rw [grown_cells hwr hB hgl _ (by rw [add_block]; exact hab)]
        exact hcj 0 _ rfl
      have hcc : ∀ i u, [Value.int .i64 k', .int .u64 a', .int .u64 b', .int .u64 c', .int .u64 d', .string t', .slice A' ks'.length cp'][i]? = some u → wr.cell? ((ad.add (j * 7)).add i) = some u := by
        intro i u hu
        rw [grown_cells hwr hB hgl _ (by rw [add_block, add_block]; exact hab)]
        exact hcj i u hu
      have e1 : wr.cell? ⟨(ad.add (j * 7)).block, (ad.add (j * 7)).off + 1, none⟩ = some (.int .u64 a') := hcc 1 _ rfl
      have e2 : wr.cell? ⟨(ad.add (j * 7)).block, (ad.add (j * 7)).off + 2, none⟩ = some (.int .u64 b') := hcc 2 _ rfl
      have e3 : wr.cell? ⟨(ad.add (j * 7)).block, (ad.add (j * 7)).off + 3, none⟩ = some (.int .u64 c') := hcc 3 _ rfl
      have e4 : wr.cell? ⟨(ad.add (j * 7)).block, (ad.add (j * 7)).off + 4, none⟩ = some (.int .u64 d') := hcc 4 _ rfl
      have e5 : wr.cell? ⟨(ad.add (j * 7)).block, (ad.add (j * 7)).off + 5, none⟩ = some (.string t') := hcc 5 _ rfl
      have e6 : wr.cell? ⟨(ad.add (j * 7)).block, (ad.add (j * 7)).off + 6, none⟩ = some (.slice A' ks'.length cp') := hcc 6 _ rfl
      clear hcc hcj hej hr' hc' hb' hnone'
      have hle := lookN_le (.mk k' a' b' c' d' t' ks') m (deep + 1) hm60
      generalize hx : lookN (.mk k' a' b' c' d' t' ks') m (deep + 1) = r at hle
      obtain ⟨x, m2⟩ := r
      have HX := Lib.hid hx
      clear hx
      have hcall : ∀ o : Obj, Calls Tryd.prog 31 #[.pointer (some ⟨g, 0, none⟩), .agg #[.int .i64 k', .int .u64 a', .int .u64 b', .int .u64 c', .int .u64 d', .string t', .slice A' ks'.length cp'], .int .i64 ((deep : Int) + 1)] (wr.alloc o) (LookQ g (x, m2) (wr.alloc o)) := fun o => by
        have h := IH.out _ hmem _ (wr.alloc o) g m (deep + 1) B (hej3.keep (Nat.le_refl _) (fun p hp => World.cell?_alloc_lt _ _ _ (by omega))) hB (hgr.alloc _) hm60 (by omega)
        rw [HX.out] at h
        exact h
      have HCall := Lib.hid hcall
      clear hcall hej3
      go_wp2_with fail
      refine (HCall.out _).mono ?_
      rintro e w2 ⟨rfl, hg2, hw2⟩
      have hwr2 : w.grownBy w2 (some g) := grown_trans (grown_alloc hwr _) hw2
      clear hw2
      by_cases hx0 : x = 0
      · subst hx0
        go_wp2
        go_roundw
        case rel =>
          refine ⟨j + 1, m2, by omega, hle.2 (by simp), by go_num, ?_, hg2, hwr2⟩
          refine HR.out.trans ?_
          rw [HD.out, looks, HX.out, if_pos rfl]
        case measure => simp [intOf]; omega
      · have hxb : (x != 0) = true := by rw [bne_iff_ne]; exact hx0
        go_wp2
        go_ret
        have HE : lookN (.mk k a b c d t ks) n deep = (x, m2) := HR.out.trans (by rw [HD.out, looks, HX.out, if_neg hx0])
        exact ⟨by rw [HE]; rfl, by rw [HE]; exact hg2, hwr2⟩
    · obtain rfl : j = ks.length := by omega
      have HR2 : Hid (lookN (.mk k a b c d t ks) n deep = (0, m)) := HR.out.trans (by rw [List.drop_length, looks])
      go_wp2
      go_ret
      exact ⟨by rw [HR2.out]; rfl, by rw [HR2.out]; exact hgr, hwr⟩

/-- what expr.Check and expr.Size say -/
def checkE (e : Ex) : Int := (lookN e 0 1).1
def sizeE (e : Ex) : Nat × Int := if (lookN e 0 1).1 = 0 then ((lookN e 0 1).2, 0) else (0, (lookN e 0 1).1)

theorem below_of_grown {w w' : World} {g B : Nat} (h : w.grownBy w' (some g)) (hB : B ≤ g) (hw : B ≤ w.heap.size) : Below B w w' :=
  ⟨h.os, h.tape, h.output, h.size, fun k hk => h.block k (by omega) fun e => by injection e with e; omega⟩

theorem Ex.parts (e : Ex) {w : World} {B : Nat} {cs : List Value} (h : ExIs w B e cs) : ∃ k a b c d t A n cp, cs = [.int .i64 k, .int .u64 a, .int .u64 b, .int .u64 c, .int .u64 d, .string t, .slice A n cp] := by
  cases h with
  | mk k a b c d t ks A cp row ht hl hm hnone hb hr hc => exact ⟨_, _, _, _, _, _, _, _, _, rfl⟩

theorem check_expr (e : Ex) (cs : List Value) (w : World) (h : ExIs w w.heap.size e cs) : Calls Tryd.prog 15 #[.agg cs.toArray] w fun e' w' => e' = .returned (.int .i64 (checkE e)) ∧ Below w.heap.size w w' := by
  have hl := fun (W : World) (g : Nat) (hW : Below w.heap.size w W) (hg : w.heap.size ≤ g) (hb : Blk W g 68 #[.int .i64 0]) => look_any e cs W g 0 1 w.heap.size (h.on hW) hg hb (by omega) (by omega)
  have HL := Lib.hid hl
  obtain ⟨k, a, b, c, d, t, A, n, cp, rfl⟩ := e.parts h
  clear hl h
  go_enter Tryd.func15, Tryd.ntmps15
  go_wp2_with fail
  refine (HL.out _ (w.heap.size + 1) (by repeat (first | exact Below.refl _ _ | assumption | refine Below.drew ?_ | refine below_drewN ?_ _ | refine Below.alloc ?_ (by first | omega | (simp; omega) | simp) _ | refine Below.setCell ?_ (by first | omega | (simp; omega) | simp) _)) (by omega) (blk_at (by simp))).mono ?_
  rintro e' w1 ⟨rfl, _, hw1⟩
  have hb1 : Below w.heap.size w w1 := Below.trans (by repeat (first | exact Below.refl _ _ | assumption | refine Below.drew ?_ | refine below_drewN ?_ _ | refine Below.alloc ?_ (by first | omega | (simp; omega) | simp) _ | refine Below.setCell ?_ (by first | omega | (simp; omega) | simp) _)) (below_of_grown hw1 (by simp) (by simp; omega))
  clear hw1
  go_wp2
  go_ret
  exact ⟨rfl, hb1⟩

theorem size_expr (e : Ex) (cs : List Value) (w : World) (h : ExIs w w.heap.size e cs) : Calls Tryd.prog 35 #[.agg cs.toArray] w fun e' w' => e' = .returned (.tuple #[.int .i64 (sizeE e).1, .int .i64 (sizeE e).2]) ∧ Below w.heap.size w w' := by
  have hl := fun (W : World) (g : Nat) (hW : Below w.heap.size w W) (hg : w.heap.size ≤ g) (hb : Blk W g 68 #[.int .i64 0]) => look_any e cs W g 0 1 w.heap.size (h.on hW) hg hb (by omega) (by omega)
  have hle := (lookN_le e 0 1 (by omega)).1
  obtain ⟨k, a, b, c, d, t, A, n, cp, rfl⟩ := e.parts h
  have hs : sizeE e = if (lookN e 0 1).1 = 0 then ((lookN e 0 1).2, 0) else (0, (lookN e 0 1).1) := rfl
  generalize lookN e 0 1 = r at hl hle hs
  obtain ⟨x, m⟩ := r
  have HL := Lib.hid hl
  have HS := Lib.hid hs
  clear hl h hs
  go_enter Tryd.func35, Tryd.ntmps35
  go_wp2_with fail
  refine (HL.out _ (w.heap.size + 1) (by repeat (first | exact Below.refl _ _ | assumption | refine Below.drew ?_ | refine below_drewN ?_ _ | refine Below.alloc ?_ (by first | omega | (simp; omega) | simp) _ | refine Below.setCell ?_ (by first | omega | (simp; omega) | simp) _)) (by omega) (blk_at (by simp))).mono ?_
  rintro e' w1 ⟨rfl, hg1, hw1⟩
  have hb1 : Below w.heap.size w w1 := Below.trans (by repeat (first | exact Below.refl _ _ | assumption | refine Below.drew ?_ | refine below_drewN ?_ _ | refine Below.alloc ?_ (by first | omega | (simp; omega) | simp) _ | refine Below.setCell ?_ (by first | omega | (simp; omega) | simp) _)) (below_of_grown hw1 (by simp) (by simp; omega))
  have hc1 : w1.cell? ⟨w.heap.size + 1, 0, none⟩ = some (.int .i64 m) := hg1.cell 0
  clear hw1
  by_cases hx0 : x = 0
  · subst hx0
    go_wp2
    go_ret2
    exact ⟨by rw [HS.out]; rfl, hb1⟩
  · have hxb : (x != 0) = true := by rw [bne_iff_ne]; exact hx0
    have HSS := Lib.hid (HS.out.trans (if_neg hx0))
    go_wp2
    go_ret2
    exact ⟨by rw [HSS.out]; rfl, hb1⟩
end Go.Proofs.YtndhbdbfjkmloaaDoor
