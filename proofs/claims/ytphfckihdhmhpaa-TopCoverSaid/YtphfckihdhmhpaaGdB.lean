/- What greedy.Pick answers. -/
import Derived.Test.YtphfckihdhmhpaaGdA
namespace Go.Proofs.Ytphfckihdhmhpaa
open Go.RowKit

theorem gain_congr {N : Nat} {h h' r : Nat → Bool} (e : ∀ x < N, h x = h' x) : gainB N h r = gainB N h' r := by
  unfold gainB cntN
  refine List.countP_congr fun x hx => ?_
  unfold newB
  rw [e x (List.mem_range.1 hx)]
theorem cnt_congr {N : Nat} {h h' : Nat → Bool} (e : ∀ x < N, h x = h' x) : cntN N h = cntN N h' := by
  unfold cntN
  refine List.countP_congr fun x hx => ?_
  rw [e x (List.mem_range.1 hx)]
theorem or_marks (x y : Int) (hx : 0 ≤ x ∧ x ≤ 3) (hy : 0 ≤ y ∧ y ≤ 3) : (0 ≤ orI x y ∧ orI x y ≤ 3) ∧ (orI x y % 2 == 1) = (x % 2 == 1 || y % 2 == 1) ∧ (orI x y / 2 == 1) = (x / 2 == 1 || y / 2 == 1) := by
  obtain ⟨n, rfl⟩ := Int.eq_ofNat_of_zero_le hx.1
  obtain ⟨m, rfl⟩ := Int.eq_ofNat_of_zero_le hy.1
  have hn : n < 4 := by omega
  have hm : m < 4 := by omega
  clear hx hy
  have h : ∀ n : Fin 4, ∀ m : Fin 4, (0 ≤ orI ((n : Nat) : Int) ((m : Nat) : Int) ∧ orI ((n : Nat) : Int) ((m : Nat) : Int) ≤ 3) ∧ (orI ((n : Nat) : Int) ((m : Nat) : Int) % 2 == 1) = (((n : Nat) : Int) % 2 == 1 || ((m : Nat) : Int) % 2 == 1) ∧ (orI ((n : Nat) : Int) ((m : Nat) : Int) / 2 == 1) = (((n : Nat) : Int) / 2 == 1 || ((m : Nat) : Int) / 2 == 1) := by decide +kernel
  exact h ⟨n, hn⟩ ⟨m, hm⟩
theorem zip_len {a b : List Int} {L : Nat} (ha : a.length = L) (hb : b.length = L) : (List.zipWith orI a b).length = L := by rw [List.length_zipWith, ha, hb, Nat.min_self]
theorem zip_marks {a b : List Int} (ma : Marks a) (mb : Marks b) : Marks (List.zipWith orI a b) := fun z hz => by
  obtain ⟨i, hi⟩ := List.mem_iff_getElem?.1 hz
  rw [List.getElem?_zipWith] at hi
  cases h1 : a[i]? with
  | none => rw [h1] at hi; cases hi
  | some x =>
    cases h2 : b[i]? with
    | none => rw [h1, h2] at hi; cases hi
    | some y =>
      rw [h1, h2] at hi
      injection hi with hi
      subst hi
      exact (or_marks x y (ma x (List.mem_of_getElem? h1)) (mb y (List.mem_of_getElem? h2))).1
theorem says_zip {a b : List Int} {L : Nat} (ha : a.length = L) (hb : b.length = L) (ma : Marks a) (mb : Marks b) {x : Nat} (hx : x < 2 * L) : says (List.zipWith orI a b) x = (says a x || says b x) := by
  have h1 : a[x / 2]? = some a[x / 2] := List.getElem?_eq_getElem (by omega)
  have h2 : b[x / 2]? = some b[x / 2] := List.getElem?_eq_getElem (by omega)
  generalize a[x / 2]'(by omega) = y at h1
  generalize b[x / 2]'(by omega) = z at h2
  have h3 : (List.zipWith orI a b)[x / 2]? = some (orI y z) := by rw [List.getElem?_zipWith, h1, h2]
  obtain ⟨_, e1, e2⟩ := or_marks y z (ma y (List.mem_of_getElem? h1)) (mb z (List.mem_of_getElem? h2))
  unfold says
  rw [h1, h2, h3]
  simp only
  split
  · exact e1
  · exact e2
theorem says_zero (L x : Nat) : says (List.replicate L 0) x = false := by
  unfold says
  rw [List.getElem?_replicate]
  split
  · rename_i h
    split at h
    · injection h with h
      subst h
      split <;> rfl
    · cases h
  · rfl
/-- greedy's state, plain: what is there, what was picked -/
structure GSt (rows : List (List Int)) (L : Nat) (hv : List Int) (pre : List Nat) : Prop where
  len : hv.length = L
  marks : Marks hv
  is : ∀ x < 2 * L, says hv x = unionB (rows.map says) pre x
  ok : PicksOk (2 * L) (rows.map says) pre
  few : pre.length ≤ cntN (2 * L) (says hv)
/-- a scan of the rows up to j: the best of them, how much it gains -/
structure Scan (rows : List (List Int)) (hv : List Int) (j b m : Nat) : Prop where
  all : ∀ (i : Nat) (r : List Int), i < j → rows[i]? = some r → gainI hv r ≤ m
  one : 0 < m → ∃ r, rows[b]? = some r ∧ gainI hv r = m
theorem Scan.zero (rows : List (List Int)) (hv : List Int) : Scan rows hv 0 0 0 := ⟨fun i r h => by omega, fun h => by omega⟩
theorem Scan.keep {rows : List (List Int)} {hv : List Int} {j b m : Nat} (h : Scan rows hv j b m) {r : List Int} (hr : rows[j]? = some r) (hg : gainI hv r ≤ m) : Scan rows hv (j + 1) b m :=
  ⟨fun i r' hi hr' => by
    by_cases hij : i = j
    · subst hij
      rw [hr] at hr'
      injection hr' with hr'
      subst hr'
      exact hg
    · exact h.all i r' (by omega) hr', h.one⟩
theorem Scan.more {rows : List (List Int)} {hv : List Int} {j b m : Nat} (h : Scan rows hv j b m) {r : List Int} (hr : rows[j]? = some r) (hg : m < gainI hv r) : Scan rows hv (j + 1) j (gainI hv r) :=
  ⟨fun i r' hi hr' => by
    by_cases hij : i = j
    · subst hij
      rw [hr] at hr'
      injection hr' with hr'
      subst hr'
      exact Nat.le_refl _
    · have := h.all i r' (by omega) hr'
      omega, fun _ => ⟨r, hr, rfl⟩⟩
section
variable {rows : List (List Int)} {L : Nat} {hv : List Int} {pre : List Nat}
theorem GSt.gain (h : GSt rows L hv pre) {r : List Int} (hl : r.length = L) (hm : Marks r) : gainI hv r = gainB (2 * L) (unionB (rows.map says) pre) (says r) := by
  rw [gain_is (h.len.trans hl.symm) h.marks hm, hl]
  exact gain_congr h.is
theorem GSt.start (rows : List (List Int)) (L : Nat) : GSt rows L (List.replicate L 0) [] :=
  ⟨List.length_replicate .., fun z hz => by
    have := List.eq_of_mem_replicate hz
    subst this
    decide, fun x _ => by rw [says_zero]; rfl, picks_nil _ _, Nat.zero_le _⟩
theorem GSt.pick (h : GSt rows L hv pre) (hall : ∀ r ∈ rows, r.length = L ∧ Marks r) {b m : Nat} (hs : Scan rows hv rows.length b m) (hm : 0 < m) {r : List Int} (hr : rows[b]? = some r) : GSt rows L (List.zipWith orI hv r) (pre ++ [b]) := by
  obtain ⟨r', hr', hg⟩ := hs.one hm
  rw [hr] at hr'
  injection hr' with hr'
  subst hr'
  obtain ⟨hl, hmk⟩ := hall r (List.mem_of_getElem? hr)
  have hgr := h.gain hl hmk
  have hbs : (rows.map says)[b]? = some (says r) := by rw [List.getElem?_map, hr]; rfl
  have hB : BestB (2 * L) (rows.map says) (unionB (rows.map says) pre) b (says r) := ⟨hbs, by omega, fun q hq => by
    obtain ⟨q', hq', rfl⟩ := List.mem_map.1 hq
    obtain ⟨i, hi⟩ := List.mem_iff_getElem?.1 hq'
    obtain ⟨ql, qm⟩ := hall q' hq'
    rw [← h.gain ql qm, ← hgr, hg]
    exact hs.all i q' (getElem?_lt hi) hi⟩
  have hz : ∀ x < 2 * L, says (List.zipWith orI hv r) x = orB (says hv) (says r) x := fun x hx => says_zip h.len hl h.marks hmk hx
  refine ⟨zip_len h.len hl, zip_marks h.marks hmk, fun x hx => ?_, picks_snoc h.ok hB, ?_⟩
  · rw [hz x hx, union_snoc, sayR_of hbs]
    unfold orB
    rw [h.is x hx]
  · rw [cnt_congr hz, cnt_or, List.length_append, List.length_singleton]
    have h1 := h.few
    have h2 : gainB (2 * L) (says hv) (says r) = m := by rw [← hg, hgr]; exact gain_congr h.is
    omega
theorem GSt.done (h : GSt rows L hv pre) (hall : ∀ r ∈ rows, r.length = L ∧ Marks r) {b : Nat} (hs : Scan rows hv rows.length b 0) : ∀ q ∈ rows.map says, gainB (2 * L) (unionB (rows.map says) pre) q = 0 := fun q hq => by
  obtain ⟨q', hq', rfl⟩ := List.mem_map.1 hq
  obtain ⟨i, hi⟩ := List.mem_iff_getElem?.1 hq'
  obtain ⟨ql, qm⟩ := hall q' hq'
  have := hs.all i q' (getElem?_lt hi) hi
  rw [← h.gain ql qm]
  omega
end
def natI (l : List Nat) : List Int := l.map fun (n : Nat) => (n : Int)
theorem natI_snoc (l : List Nat) (b : Nat) : ints (natI (l ++ [b])) = ints (natI l) ++ [.int .i64 b] := by simp [natI, ints]
/-- what greedy.Pick leaves -/
def PickQ (rows : List (List Int)) (w : World) (e : Ending) (w' : World) : Prop :=
  ∃ V c l, e = .returned (.tuple #[.slice V l.length c, .int .i64 (chkR rows)]) ∧ Reads w' w'.heap.size 1 V l.length (ints (natI l)) ∧ Below w.heap.size w w' ∧ l.length ≤ 240 ∧ l.length ≤ c ∧ c ≤ maxLen ∧ (V = none → c = 0) ∧ (chkR rows ≠ 0 → l = []) ∧
    (chkR rows = 0 → PicksOk (2 * rowL rows) (rows.map says) l ∧ ∀ q ∈ rows.map says, gainB (2 * rowL rows) (unionB (rows.map says) l) q = 0)
theorem Reads.grownF {w w' : World} {B size n : Nat} {A : Option Addr} {xs : List Value} {row : Option Nat} (h : Reads w B size A n xs) (hg : w.grownBy w' row) (hB : B ≤ w.heap.size) (hr : ∀ ad : Addr, A = some ad → some ad.block ≠ row) : Reads w' B size A n xs where
  len := h.len
  lies hn := by
    obtain ⟨ad, e, hb, hc⟩ := h.lies hn
    refine ⟨ad, e, hb, fun j u hu => ?_⟩
    rw [World.cell?_of_block (hg.block (ad.add j).block (by rw [add_block]; omega) (by rw [add_block]; exact hr ad e))]
    exact hc j u hu
theorem own_cap {w : World} {base n c size : Nat} {e : TypeId} {V : Option Addr} {xs : List Value} (h : w.ownsRow base e size (.slice V n c) n xs) : n ≤ c ∧ c ≤ maxLen ∧ (V = none → c = 0) := by
  rcases h.2 with ⟨h1, h2⟩ | ⟨g, cap, cur, hv, _, _, h5, h6, _⟩
  · injection h1 with e1 e2 e3
    subst e1 e3
    exact ⟨by omega, by unfold maxLen; omega, fun _ => rfl⟩
  · injection hv with e1 e2 e3
    subst e1 e3
    exact ⟨h5, h6, fun h => (by cases h)⟩
theorem own_base_le {w : World} {base n c size : Nat} {e : TypeId} {V : Option Addr} {xs : List Value} (h : w.ownsRow base e size (.slice V n c) n xs) : ∀ ad : Addr, V = some ad → base ≤ ad.block := fun ad hV => by
  subst hV
  rcases h.2 with ⟨h1, _⟩ | ⟨g, cap, cur, hv, h3, _⟩
  · cases h1
  · injection hv with e1
    injection e1 with e1
    subst e1
    exact h3
theorem merge_ok {a b : List Int} {L : Nat} (ha : a.length = L) (hb : b.length = L) (hL : L ≤ 120) (ma : Marks a) (mb : Marks b) : mergeE a b = 0 := by
  unfold mergeE
  rw [if_neg (by rw [check_of (by omega) ma]; simp), if_neg (by rw [check_of (by omega) mb]; simp), if_neg (by omega)]
theorem mergeV_ok {a b : List Int} {L : Nat} (ha : a.length = L) (hb : b.length = L) (hL : L ≤ 120) (ma : Marks a) (mb : Marks b) : mergeV a b = List.zipWith orI a b := by
  unfold mergeV
  rw [if_pos (merge_ok ha hb hL ma mb)]
def sliceLen : Value → Nat
  | .slice _ n _ => n
  | _ => 0

theorem cells_newZ (w : World) (t : TypeId) (cs : List Value) : ∀ (j : Nat) (u : Value), cs[j]? = some u → (w.alloc (.cells cs.toArray t)).cell? ((⟨w.heap.size, 0, none⟩ : Addr).add j) = some u := by
  intro j u h
  have hb : Blk (w.alloc (.cells cs.toArray t)) w.heap.size t cs.toArray := blk_at rfl
  have h1 : (⟨w.heap.size, 0, none⟩ : Addr).add j = ⟨w.heap.size, j, none⟩ := by
    cases j with
    | zero => rfl
    | succ j => simp [Addr.add]
  rw [h1]
  exact (hb.cell j).trans (by rw [List.getElem?_toArray]; exact h)
set_option maxRecDepth 100000 in
set_option maxHeartbeats 2000000 in
theorem pick_any (rows : List (List Int)) (A : Option Addr) (c : Nat) (w : World) (hr : RowsIs w w.heap.size rows A c) :
    Calls Try.prog 35 #[.slice A rows.length c] w (PickQ rows w) := by
  have hle := hr.le
  have hcap := hr.cap
  unfold maxLen at hcap
  have hck := gcheckR_any rows A c w.heap.size w hr
  have HCK := Lib.hid hck
  clear hck
  by_cases h0 : chkR rows = 0
  · have HC := Lib.hid h0
    rw [h0] at HCK
    obtain ⟨h40, hL, hall⟩ := chkR_all h0
    have HA := Lib.hid hall
    clear h0 hall
    by_cases hn : rows.length = 0
    · have hnb : ((rows.length : Int) == 0) = true := by rw [beq_iff_eq]; omega
      have HQ : Hid (∀ w', Below w.heap.size w w' → PickQ rows w (.returned (.tuple #[.slice none 0 0, .int .i64 0])) w') := fun w' hb =>
        ⟨none, 0, [], by rw [HC.out]; rfl, Reads.none_, hb, by simp, by simp, by unfold maxLen; omega, fun _ => rfl, fun _ => rfl, fun _ => ⟨picks_nil _ _, fun q hq => by
          have : rows = [] := List.length_eq_zero_iff.1 hn
          subst this
          cases hq⟩⟩
      generalize PickQ rows w = Q at HQ ⊢
      clear hn
      go_enter Try.func35, Try.ntmps35
      go_wp2_with fail
      refine HCK.out.mono ?_
      rintro e w1 ⟨rfl, hw⟩
      subst w1
      go_wp2
      exact HQ.out _ (Below.refl _ _)
    · have hnb : ((rows.length : Int) == 0) = false := by rw [beq_eq_false_iff_ne]; omega
      have hn0 : (0 : Int) < (rows.length : Int) := by omega
      have HQ : Hid (∀ V c l w', w'.ownsRow w.heap.size 3 1 (.slice V l.length c) l.length (ints (natI l)) → Below w.heap.size w w' → l.length ≤ 240 → PicksOk (2 * rowL rows) (rows.map says) l → (∀ q ∈ rows.map says, gainB (2 * rowL rows) (unionB (rows.map says) l) q = 0) → PickQ rows w (.returned (.tuple #[.slice V l.length c, .int .i64 0])) w') := fun V c l w' ho hb hl hp hd =>
        ⟨V, c, l, by rw [HC.out], Reads.of_own ho, hb, hl, (own_cap ho).1, (own_cap ho).2.1, (own_cap ho).2.2, fun h => absurd HC.out h, fun _ => ⟨hp, hd⟩⟩
      have hx0 : rows[0]? = some (rows[0]'(by omega)) := List.getElem?_eq_getElem (by omega)
      generalize rows[0]'(by omega) = x0 at hx0
      have hLx := rowL_is hx0
      obtain ⟨ad, A0, c0, rfl, hab, hc0', hl0, hm0, -⟩ := hr.row 0 x0 hx0
      have hc0 : w.cell? ad = some (.slice A0 x0.length c0) := hc0'
      clear hc0'
      have HS0 : Hid (GSt rows x0.length (List.replicate x0.length 0) []) := GSt.start rows x0.length
      rw [hLx] at HQ hL HA
      obtain ⟨i0, hi0, hz0, hz1, hz2⟩ := info_parts int_info
      have hmk := fun W => made_run Try.underlying63 hi0 hz0 .i64 .i64 (Nat.le_refl x0.length) (by rw [hz2]; omega) (by omega) W
      rw [hz1] at hmk
      change ∀ W : World, _ = Result.ok _ (W.alloc (.cells (zeros x0.length) 3)) at hmk
      generalize PickQ rows w = Q at HQ ⊢
      have hR0 := Lib.hid hr
      clear hx0 hLx hr hn HC hm0 hl0
      generalize x0.length = L at HQ hL HA HS0 hmk hc0 ⊢
      clear x0
      go_enter Try.func35, Try.ntmps35
      go_wp2_with fail
      refine HCK.out.mono ?_
      rintro e w1 ⟨rfl, hw⟩
      subst w1
      go_wp2
      have hz : Blk (w.alloc (.cells (zeros L) 3)) w.heap.size 3 (zeros L) := blk_at rfl
      have HZ : Hid (Reads (w.alloc (.cells (zeros L) 3)) (w.alloc (.cells (zeros L) 3)).heap.size 1 (some ⟨w.heap.size, 0, none⟩) L (ints (List.replicate L 0))) := by
        have h := reads_block (w := w.alloc (.cells (zeros L) 3)) (B := (w.alloc (.cells (zeros L) 3)).heap.size) (n := (zeros L).size) hz (zeros_toList L).symm rfl (by simp)
        rw [zeros_size] at h
        exact h
      have hw1 : Below w.heap.size w (w.alloc (.cells (zeros L) 3)) := (by repeat (first | exact Below.refl _ _ | assumption | refine Below.drew ?_ | refine below_drewN ?_ _ | refine Below.alloc ?_ (by first | omega | (simp; omega) | simp) _ | refine Below.setCell ?_ (by first | omega | (simp; omega) | simp) _))
      clear hz
      generalize (w.alloc (.cells (zeros L) 3)) = w1 at HZ hw1 ⊢
      generalize some (Addr.mk w.heap.size 0 none) = VZ at HZ ⊢
      have HRS := Lib.hid (fun (W : World) (hW : Below w.heap.size w W) => hR0.out.on hW)
      go_loopw [5, 6, 7, 8, 9, 10, 11] (fun vh vo _ _ _ _ _ wr => ∃ (hv : List Int) (pre : List Nat) (VH VO : Option Addr) (ch co : Nat), vh = .slice VH L ch ∧ vo = .slice VO pre.length co ∧ Hid (GSt rows L hv pre) ∧ Hid (Reads wr wr.heap.size 1 VH L (ints hv)) ∧ Hid (∀ ad : Addr, VH = some ad → some ad.block ≠ (Value.slice VO pre.length co).ownBlock) ∧ Hid (wr.ownsRow w.heap.size 3 1 (.slice VO pre.length co) pre.length (ints (natI pre))) ∧ Below w.heap.size w wr) (fun _ vo _ _ _ _ _ _ => 241 - sliceLen vo)
      case atStart => exact ⟨_, [], VZ, none, L, 0, rfl, rfl, HS0, HZ, (fun ad _ => by simp [Value.ownBlock]), World.ownsRow_nil _ _ _ _, hw1⟩
      case round =>
        obtain ⟨hv, pre, VH, VO, ch, co, rfl, rfl, HG, HV, HP, HO, hwr⟩ := hrel
        have hp : pre.length ≤ 240 := by
          have h1 := HG.out.few
          have h2 := cntN_le (2 * L) (says hv)
          omega
        have hwz := hwr.size
        clear HZ hw1 HS0
        rename World => ws
        go_wp2
        go_loopw [7, 8, 9, 10, 11, 27] (fun vb vm _ _ _ i wi => ∃ j b m : Nat, j ≤ rows.length ∧ i = .int .i64 j ∧ vb = .int .i64 b ∧ vm = .int .i64 m ∧ m ≤ 7680 ∧ b < rows.length ∧ Hid (Scan rows hv j b m) ∧ wi = ws) (fun _ _ _ _ _ i _ => rows.length - (intOf i).toNat)
        case atStart => exact ⟨0, 0, 0, by omega, rfl, rfl, rfl, by omega, by omega, Scan.zero rows hv, rfl⟩
        case round =>
          obtain ⟨j, b, m, hj, rfl, rfl, rfl, hm, hb, HSC, rfl⟩ := hrel
          by_cases hjn : j < rows.length
          · have hx := List.getElem?_eq_getElem hjn
            generalize rows[j] = r at hx
            obtain ⟨ad', Aj, cj, e, hab', hcj, hlj, hmj, hrj⟩ := (HRS.out _ hwr).row j r hx
            injection e with e
            subst e
            obtain ⟨hrl, hrm⟩ := HA.out r (List.mem_of_getElem? hx)
            rw [hrl] at hcj hrj
            have hga := gain_any VH Aj L ch cj hv r wr.heap.size w.heap.size wr HV.out hrj hL HG.out.marks hrm
            have hgl : gainI hv r ≤ 7680 := by have := gainI_le hv r; omega
            have hj0 : (0 : Int) ≤ (j : Int) := by omega
            have hj1 : (j : Int) < (rows.length : Int) := by omega
            rcases Nat.lt_or_ge m (gainI hv r) with hmq | hmq
            · have HS2 := Lib.hid (HSC.out.more hx hmq)
              have hmi : (m : Int) < (gainI hv r : Int) := by omega
              generalize gainI hv r = q at hga HS2 hgl hmi hmq
              have HGA := Lib.hid hga
              clear hga hrj hlj hmj hx
              go_wp2_with fail
              refine HGA.out.mono ?_
              rintro e w5 ⟨rfl, rfl⟩
              go_wp2
              go_roundw
              case rel => exact ⟨j + 1, j, q, by omega, by go_num, rfl, rfl, hgl, hjn, HS2, trivial⟩
              case measure => simp [intOf]; omega
            · have HS2 := Lib.hid (HSC.out.keep hx hmq)
              have hmi : ((m : Int) < (gainI hv r : Int)) = False := by simp; omega
              generalize gainI hv r = q at hga HS2 hgl hmi hmq
              have HGA := Lib.hid hga
              clear hga hrj hlj hmj hx
              go_wp2_with fail
              refine HGA.out.mono ?_
              rintro e w5 ⟨rfl, rfl⟩
              go_wp2
              go_roundw
              case rel => exact ⟨j + 1, b, m, by omega, by go_num, rfl, rfl, hm, hb, HS2, trivial⟩
              case measure => simp [intOf]; omega
          · obtain rfl : j = rows.length := by omega
            rcases Nat.eq_zero_or_pos m with hm0 | hm0
            · subst hm0
              have HD := Lib.hid (HG.out.done HA.out HSC.out)
              have HOK := Lib.hid HG.out.ok
              have HF := Lib.hid (HQ.out VO co pre wr HO.out hwr hp HOK.out HD.out)
              clear HSC HD HOK HG HV HP HO
              go_wp2
              exact HF.out
            · have hmb : ((m : Int) == 0) = false := by rw [beq_eq_false_iff_ne]; omega
              have hx := List.getElem?_eq_getElem hb
              generalize rows[b] = r at hx
              obtain ⟨ad', Ab, cb, e, hab', hcb, hlb, hmb', hrb⟩ := (HRS.out _ hwr).row b r hx
              injection e with e
              subst e
              obtain ⟨hrl, hrm⟩ := HA.out r (List.mem_of_getElem? hx)
              have HG2 := Lib.hid (HG.out.pick HA.out HSC.out hm0 hx)
              have HPA := HP
              rw [hrl] at hcb hrb
              have HX := Lib.hid hx
              have hb0 : (0 : Int) ≤ (b : Int) := by omega
              have hb1 : (b : Int) < (rows.length : Int) := by omega
              have HMH := Lib.hid HG.out.marks
              have HMR := Lib.hid hrm
              have HHL := Lib.hid HG.out.len
              have HRL := Lib.hid hrl
              clear HSC HG hx hrb hlb hmb' hrm hrl
              go_wp2_with (at_builtin; refine wpList_append_own_at _ rfl _ _ _ rfl w.heap.size 3 i0 _ 1 8 Try.underlying63 hi0 hz0 hz1 hz2 rfl (by decide) _ pre.length (ints (natI pre)) rfl (HO.out.alloc _) ⟨wr.heap.size, 0, none⟩ 1 1 [.int .i64 b] rfl rfl (cells_newZ wr 3 [.int .i64 b]) (by simp [Value.oneCell']) (by unfold maxLen; omega) (by omega) (by simp; omega) ?_; intro v' w6 hown6 hgr6 hnil6 hat6; obtain ⟨V6, c6, rfl⟩ := own_form hown6; have hw6 : Below w.heap.size w w6 := below_app (hwr.alloc hwz _) (HO.out.alloc _) hgr6 (by simp; omega) (Nat.le_refl _); have hcb6 : w6.cell? (ad.add b) = some (.slice Ab L cb) := (hgr6.cell_far _ (by rw [add_block]; simp; omega) (own_ne_add HO.out hab)).trans ((World.cell?_alloc_lt wr _ _ (by rw [add_block]; omega)).trans hcb))
              have hVH6 := (HV.out.alloc_on (.cells #[.int .i64 b] 3)).grownF hgr6 (Nat.le_refl _) HP.out
              obtain ⟨ad2, Ab2, cb2, e2, -, hcb2, -, -, hrb2⟩ := (HRS.out _ hw6).row b r HX.out
              injection e2 with e2
              subst e2
              rw [hcb6] at hcb2
              injection hcb2 with hcb2
              injection hcb2 with e3 e4 e5
              subst e3 e5
              clear e4
              rw [HRL.out] at hrb2
              have hme := merge_any VH Ab L ch L cb hv r _ _ w6 hVH6 hrb2 hgr6.size hw6.size
              unfold MergeSays at hme
              rw [merge_ok HHL.out HRL.out hL HMH.out HMR.out, mergeV_ok HHL.out HRL.out hL HMH.out HMR.out, zip_len HHL.out HRL.out] at hme
              have HME := Lib.hid hme
              have H6 := Lib.hid hown6
              clear hown6 hgr6 hnil6 hat6 hVH6 hrb2 hme hcb6 hcb
              refine HME.out.mono ?_
              rintro e w7 ⟨V7, c7, rfl, ho7, hb7⟩
              have hw7 := hw6.trans (hb7.mono hw6.size)
              have HO7 := Lib.hid (own_below H6.out hb7)
              have HR7 := Lib.hid (Reads.of_own ho7)
              have HP7 : Hid (∀ ad : Addr, V7 = some ad → some ad.block ≠ (Value.slice V6 (pre.length + 1) c6).ownBlock) := fun ad hV he => by
                have h1 := own_base_le ho7 ad hV
                have h2 := H6.out.lt ad.block he.symm
                omega
              clear ho7 hb7 HV HP HO HME
              go_wp2
              go_roundw
              case rel => exact ⟨_, pre ++ [b], V7, V6, c7, c6, rfl, by rw [List.length_append, List.length_singleton], HG2, HR7, by rw [List.length_append, List.length_singleton]; exact HP7, by rw [List.length_append, List.length_singleton, natI_snoc]; exact HO7, hw7⟩
              case measure => show 241 - (pre.length + 1) < 241 - pre.length; omega
  · have h0' : (chkR rows != 0) = true := by rw [bne_iff_ne]; exact h0
    have HQ : Hid (∀ w', Below w.heap.size w w' → PickQ rows w (.returned (.tuple #[.slice none 0 0, .int .i64 (chkR rows)])) w') := fun w' hb =>
      ⟨none, 0, [], rfl, Reads.none_, hb, by simp, by simp, by unfold maxLen; omega, fun _ => rfl, fun _ => rfl, fun h => absurd h h0⟩
    generalize PickQ rows w = Q at HQ ⊢
    generalize chkR rows = x at HQ HCK h0'
    clear h0
    go_enter Try.func35, Try.ntmps35
    go_wp2_with fail
    refine HCK.out.mono ?_
    rintro e w1 ⟨rfl, hw⟩
    subst w1
    go_wp2
    exact HQ.out _ (Below.refl _ _)
end Go.Proofs.Ytphfckihdhmhpaa
