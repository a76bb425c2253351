/- Jobs: the walk of (*task).work. -/
import Derived.Test.YtlamphneimpdlaaJbA
import Derived.Test.YtlamphneimpdlaaQSpl
namespace Go.Proofs.Ytlamphneimpdlaa
open Go.RowKit

/-- all stands but for one block and one row -/
structure But (p : Nat) (row : Option Nat) (w w' : World) : Prop where
  os : w'.os = w.os
  tape : w'.tape = w.tape
  output : w'.output = w.output
  size : w.heap.size ≤ w'.heap.size
  block : ∀ k, k < w.heap.size → k ≠ p → some k ≠ row → w'.heap[k]? = w.heap[k]?
theorem But.below {p B : Nat} {row : Option Nat} {w w' : World} (h : But p row w w') (hB : B ≤ w.heap.size) (hp : B ≤ p) (hr : ∀ k, row = some k → B ≤ k) : Below B w w' :=
  ⟨h.os, h.tape, h.output, h.size, fun k hk => h.block k (by omega) (by omega) fun e => by have := hr k e.symm; omega⟩
theorem But.blk {p g : Nat} {row : Option Nat} {w w' : World} {t : TypeId} {cs : Array Value} (h : But p row w w') (hb : Blk w g t cs) (hp : g ≠ p) (hr : some g ≠ row) : Blk w' g t cs := (h.block g hb.lt hp hr).trans hb
theorem But.own {p base n size : Nat} {row : Option Nat} {w w' : World} {e : TypeId} {v : Value} {xs : List Value} (h : But p row w w') (ho : w.ownsRow base e size v n xs) (hp : v.ownBlock ≠ some p) (hr : v.ownBlock = none ∨ v.ownBlock ≠ row) : w'.ownsRow base e size v n xs := by
  rcases ho with ⟨h1, ⟨rfl, h2⟩ | ⟨g, cap, cur, rfl, h2, h3, h4⟩⟩
  · exact ⟨h1, .inl ⟨rfl, h2⟩⟩
  · refine ⟨h1, .inr ⟨g, cap, cur, rfl, h2, ?_, h4⟩⟩
    have hg : g < w.heap.size := (Array.getElem?_eq_some_iff.1 h3).1
    rw [h.block g hg (fun e => hp (by rw [e]; rfl)) ?_]
    · exact h3
    · rcases hr with hr | hr
      · cases hr
      · exact hr
theorem But.after {p : Nat} {row : Option Nat} {w w1 w2 : World} (h : Below w.heap.size w w1) (h2 : But p row w1 w2) : But p row w w2 :=
  ⟨h2.os.trans h.os, h2.tape.trans h.tape, h2.output.trans h.output, Nat.le_trans h.size h2.size, fun k hk h3 h4 => (h2.block k (by have := h.size; omega) h3 h4).trans (h.block k hk)⟩
def WorkQ (A : Option Addr) (gn cp : Nat) (a : ByteArray) (n bud : Int) (base p : Nat) (V : Option Addr) (c m : Nat) (x' : Jst) (w : World) (e : Ending) (w' : World) : Prop :=
  e = .returned (.tuple #[]) ∧ ∃ V' c', Blk w' p 146 (taskC A gn cp a n bud V' c' x') ∧ w'.ownsRow base 9 1 (.slice V' x'.found.length c') x'.found.length (x'.found.map Value.string) ∧
    But p (Value.slice V m c).ownBlock w w' ∧ ((Value.slice V' x'.found.length c').ownBlock = (Value.slice V m c).ownBlock ∨ ∃ q, (Value.slice V' x'.found.length c').ownBlock = some q ∧ w.heap.size ≤ q)
theorem own_setne {W : World} {base : Nat} {e : TypeId} {size : Nat} {v : Value} {n : Nat} {xs : List Value} (h : W.ownsRow base e size v n xs) {k : Nat} (hk : some k ≠ v.ownBlock) (j : Nat) (u : Value) : (W.setCell ⟨k, j, none⟩ u).ownsRow base e size v n xs :=
  h.kept (row := some k) ⟨rfl, rfl, rfl, by simp [World.setCell], fun q _ hne => Below.heap_setCell W ⟨k, j, none⟩ u q (by rintro rfl; exact hne rfl)⟩ (.inr fun e => hk e.symm)
theorem But.setCell {p : Nat} {row : Option Nat} {w w' : World} (h : But p row w w') (j : Nat) (u : Value) : But p row w (w'.setCell ⟨p, j, none⟩ u) :=
  ⟨h.os, h.tape, h.output, by have := h.size; simpa [World.setCell] using this, fun k hk h1 h2 => (Below.heap_setCell w' ⟨p, j, none⟩ u k h1).trans (h.block k hk h1 h2)⟩
theorem work_end {A : Option Addr} {gn cp : Nat} {a : ByteArray} {n bud : Int} {base p : Nat} {V V' : Option Addr} {c c' m l l' : Nat} {f l2 : List ByteArray} {cs cs2 : ByteArray} {cb cb2 : Bool} {w w4 w5 : World} (hb : Below w.heap.size w w4)
    (hB4 : Blk w4 p 146 (taskC A gn cp a n bud V c ⟨f, (cs, cb), l⟩)) (ho4 : w4.ownsRow base 9 1 (.slice V f.length c) f.length (f.map Value.string)) (hgr : w4.grownBy w5 (Value.slice V f.length c).ownBlock)
    (hm : m = l2.length) (hown : w5.ownsRow base 9 1 (.slice V' (f.length + m) c') (f.length + m) (f.map Value.string ++ l2.map Value.string)) (hat : (Value.slice V' (f.length + m) c').ownBlock = (Value.slice V f.length c).ownBlock ∨ (Value.slice V' (f.length + m) c').ownBlock = some w4.heap.size) :
    WorkQ A gn cp a n bud base p V c f.length ⟨f ++ l2, (cs2, cb2), l'⟩ w (.returned (.tuple #[])) ((((w5.setCell ⟨p, 4, none⟩ (.slice V' (f.length + m) c')).setCell ⟨p, 5, none⟩ (.string cs2)).setCell ⟨p, 6, none⟩ (.bool cb2)).setCell ⟨p, 7, none⟩ (.int .i64 l')) := by
  subst hm
  have hB5 : Blk w5 p 146 _ := hB4.grown hgr (own_ne_t hB4 ho4 (by decide))
  have hne := own_ne_t hB5 hown (by decide)
  have hbut : But p (Value.slice V f.length c).ownBlock w w5 :=
    ⟨hgr.os.trans hb.os, hgr.tape.trans hb.tape, hgr.output.trans hb.output, Nat.le_trans hb.size hgr.size, fun k hk _ h2 => (hgr.block k (by have := hb.size; omega) h2).trans (hb.block k hk)⟩
  refine ⟨rfl, V', c', ?_, ?_, (((hbut.setCell 4 _).setCell 5 _).setCell 6 _).setCell 7 _, ?_⟩
  · have := (((hB5.set_ 4 (.slice V' (f.length + l2.length) c')).set_ 5 (.string cs2)).set_ 6 (.bool cb2)).set_ 7 (.int .i64 l')
    simpa [taskC] using this
  · have := own_setne (own_setne (own_setne (own_setne hown hne 4 (.slice V' (f.length + l2.length) c')) hne 5 (.string cs2)) hne 6 (.bool cb2)) hne 7 (.int .i64 l')
    simpa using this
  · simp only [List.length_append]
    rcases hat with h | h
    · exact .inl h
    · exact .inr ⟨_, h, hb.size⟩
set_option maxRecDepth 100000 in
set_option maxHeartbeats 1000000 in
theorem work_any {g : List Rl} {A : Option Addr} {cp : Nat} {row : Nat → List Value} {w0 w : World} (h0 : GrIs w0 w0.heap.size g A cp row) (hwf : ∀ r ∈ g, WfE r.2) (hw : Below w0.heap.size w0 w) (a : ByteArray) (ha : a.size ≤ 140737488351232) (k : Nat) (hk6 : k ≤ 6) (bud : Int) (hl : LookOk g a k)
    {base p : Nat} (hb1 : base ≤ w.heap.size) {V : Option Addr} {c : Nat} {x : Jst} (hB : Blk w p 146 (taskC A g.length cp a k bud V c x)) (ho : w.ownsRow base 9 1 (.slice V x.found.length c) x.found.length (x.found.map Value.string))
    (hcu : CurOk a.data.toList k x.cur) (hle : x.left ≤ 1048576) (hfl : x.found.length ≤ 1048576) (s : Nat) (hs : s ≤ 1048576) :
    Calls Try.prog 74 #[.pointer (some ⟨p, 0, none⟩), .int .i64 s] w (WorkQ A g.length cp a k bud base p V c x.found.length (workJ (accG g) a.data.toList k s x) w) := by
  obtain ⟨m, hm⟩ : ∃ m, min s x.left = m := ⟨_, rfl⟩
  have hcu' := hcu
  have hli : ∀ (W : World), Below w0.heap.size w0 W → Calls Try.prog 25 #[.agg #[.slice A g.length cp], .string a, .int .i64 k, curV x.cur, .int .i64 m] W (fun e w' => Below W.heap.size W w' ∧ ∃ V2 c2, e = .returned (.tuple #[.slice V2 (listL (accG g) a.data.toList k x.cur m).1.length c2, curV (listL (accG g) a.data.toList k x.cur m).2, .int .i64 0]) ∧ w'.ownsRow W.heap.size 9 1 (.slice V2 (listL (accG g) a.data.toList k x.cur m).1.length c2) (listL (accG g) a.data.toList k x.cur m).1.length ((listL (accG g) a.data.toList k x.cur m).1.map Value.string)) := fun W hW => by
    refine (list_any (h0.grow hW) hwf a k ha ⟨by omega, by omega⟩ x.cur (by have := hcu.2.1; omega) m).mono ?_
    rintro e w' ⟨hb, ⟨h1, _⟩ | ⟨_, h1, _⟩ | ⟨_, _, V2, c2, l2, cu2, h3, h4, h5⟩⟩
    · exact absurd hl h1
    · exact absurd ⟨by omega, by omega, by rw [Int.toNat_natCast]; exact hcu⟩ h1
    · rw [Int.toNat_natCast, Int.toNat_natCast] at h3
      rw [h3]
      exact ⟨hb, V2, c2, h4, h5⟩
  obtain ⟨is, his, hsz0, hsz1, hsz2⟩ := info_parts str_info
  have hll := listL_len (acc := accG g) (a := a.data.toList) (k := k) x.cur m
  have hbd : shN a.data.toList.length (k + 1) ≤ 5000 := by
    obtain ⟨k', e1, _, e2⟩ := hl.2.2
    rw [show k = k' by omega, size_list]
    exact e2
  replace hll := Nat.le_trans hll hbd
  have hx : workJ (accG g) a.data.toList k s x = ⟨x.found ++ (listL (accG g) a.data.toList k x.cur m).1, (listL (accG g) a.data.toList k x.cur m).2, x.left - m⟩ := by rw [← hm]; rfl
  rw [hx]
  generalize (listL (accG g) a.data.toList k x.cur m) = q at hli hll ⊢
  obtain ⟨l2, cs2, cb2⟩ := q
  obtain ⟨f, ⟨cs, cb⟩, l⟩ := x
  simp only [curV] at hle hfl ho hm hll hli ⊢
  have HEND : Hid (∀ w4 w5 V' c' l', Below w.heap.size w w4 → Blk w4 p 146 (taskC A g.length cp a k bud V c ⟨f, (cs, cb), l⟩) → w4.ownsRow base 9 1 (.slice V f.length c) f.length (f.map Value.string) → w4.grownBy w5 (Value.slice V f.length c).ownBlock →
      w5.ownsRow base 9 1 (.slice V' (f.length + l2.length) c') (f.length + l2.length) (f.map Value.string ++ l2.map Value.string) → ((Value.slice V' (f.length + l2.length) c').ownBlock = (Value.slice V f.length c).ownBlock ∨ (Value.slice V' (f.length + l2.length) c').ownBlock = some w4.heap.size) → l' = ((l - m : Nat) : Int) →
      WorkQ A g.length cp a k bud base p V c f.length ⟨f ++ l2, (cs2, cb2), l - m⟩ w (.returned (.tuple #[])) ((((w5.setCell ⟨p, 4, none⟩ (.slice V' (f.length + l2.length) c')).setCell ⟨p, 5, none⟩ (.string cs2)).setCell ⟨p, 6, none⟩ (.bool cb2)).setCell ⟨p, 7, none⟩ (.int .i64 l'))) := fun w4 w5 V' c' l' h1 h2 h3 h4 h5 h6 h7 => by
    rw [h7]
    exact work_end h1 h2 h3 h4 rfl h5 h6
  generalize WorkQ A g.length cp a k bud base p V c f.length ⟨f ++ l2, (cs2, cb2), l - m⟩ w = Q at HEND ⊢
  have y0 : w.cell? ⟨p, 0, none⟩ = some (.slice A g.length cp) := hB.cell 0
  have y1 : w.cell? ⟨p, 1, none⟩ = some (.string a) := hB.cell 1
  have y2 : w.cell? ⟨p, 2, none⟩ = some (.int .i64 k) := hB.cell 2
  have y4 : w.cell? ⟨p, 4, none⟩ = some (.slice V f.length c) := hB.cell 4
  have y5 : w.cell? ⟨p, 5, none⟩ = some (.string cs) := hB.cell 5
  have y6 : w.cell? ⟨p, 6, none⟩ = some (.bool cb) := hB.cell 6
  have y7 : w.cell? ⟨p, 7, none⟩ = some (.int .i64 l) := hB.cell 7
  have hpl := hB.lt
  have hmi : (if l < s then (l : Int) else (s : Int)) = (m : Int) := by split <;> omega
  have HLI := Lib.hid hli
  have HO := Lib.hid ho
  have HW := Lib.hid hw
  have HB := Lib.hid hB
  clear hx hli ho hw hB hwf hl hbd
  go_enter Try.func74, Try.ntmps74
  go_upto_region 1 with fail
  refine wp_region_l (Below w.heap.size w) (fun _ => false) (by kernel_rfl) ?_
  have hC : Below w.heap.size w w.drew := (Below.refl _ w).drew
  have HD := Lib.hid (show w.drew.ownsRow base 9 1 (.slice V f.length c) f.length (f.map Value.string) from HO.out)
  have hbw : w.heap.size ≤ w.drew.heap.size := Nat.le_refl _
  generalize w.drew = wd at hC HD hbw ⊢
  apply L.rd (i := 0) rfl (by kernel_rfl) hC rfl
  · intro W hW
    skip
    unfold readW
    go_simp
    first | rfl | exact ⟨rfl, rfl⟩
  first | simp only [Act.put, List.setIfInBounds_toArray, List.set_cons_succ, List.set_cons_zero] | skip
  apply L.rd (i := 1) rfl (by kernel_rfl) hC rfl
  · intro W hW
    skip
    unfold readW
    go_simp
    first | rfl | exact ⟨rfl, rfl⟩
  first | simp only [Act.put, List.setIfInBounds_toArray, List.set_cons_succ, List.set_cons_zero] | skip
  apply L.rd (i := 2) rfl (by kernel_rfl) hC rfl
  · intro W hW
    skip
    unfold readW
    go_simp
    first | rfl | exact ⟨rfl, rfl⟩
  first | simp only [Act.put, List.setIfInBounds_toArray, List.set_cons_succ, List.set_cons_zero] | skip
  apply L.rd (i := 3) rfl (by kernel_rfl) hC rfl
  · intro W hW
    skip
    unfold readW
    go_simp
    first | rfl | exact ⟨rfl, rfl⟩
  first | simp only [Act.put, List.setIfInBounds_toArray, List.set_cons_succ, List.set_cons_zero] | skip
  apply L.rd (i := 4) rfl (by kernel_rfl) hC rfl
  · intro W hW
    have n0 := (hW.cell (p := ⟨p, 0, none⟩) hpl).trans y0
    unfold readW
    go_simp
    first | rfl | exact ⟨rfl, rfl⟩
  first | simp only [Act.put, List.setIfInBounds_toArray, List.set_cons_succ, List.set_cons_zero] | skip
  apply L.rd (i := 5) rfl (by kernel_rfl) hC rfl
  · intro W hW
    skip
    unfold readW
    go_simp
    first | rfl | exact ⟨rfl, rfl⟩
  first | simp only [Act.put, List.setIfInBounds_toArray, List.set_cons_succ, List.set_cons_zero] | skip
  apply L.rd (i := 6) rfl (by kernel_rfl) hC rfl
  · intro W hW
    skip
    unfold readW
    go_simp
    first | rfl | exact ⟨rfl, rfl⟩
  first | simp only [Act.put, List.setIfInBounds_toArray, List.set_cons_succ, List.set_cons_zero] | skip
  apply L.rd (i := 7) rfl (by kernel_rfl) hC rfl
  · intro W hW
    skip
    unfold readW
    go_simp
    first | rfl | exact ⟨rfl, rfl⟩
  first | simp only [Act.put, List.setIfInBounds_toArray, List.set_cons_succ, List.set_cons_zero] | skip
  apply L.rd (i := 8) rfl (by kernel_rfl) hC rfl
  · intro W hW
    skip
    unfold readW
    go_simp
    first | rfl | exact ⟨rfl, rfl⟩
  first | simp only [Act.put, List.setIfInBounds_toArray, List.set_cons_succ, List.set_cons_zero] | skip
  apply L.rd (i := 9) rfl (by kernel_rfl) hC rfl
  · intro W hW
    have n0 := (hW.cell (p := ⟨p, 1, none⟩) hpl).trans y1
    unfold readW
    go_simp
    first | rfl | exact ⟨rfl, rfl⟩
  first | simp only [Act.put, List.setIfInBounds_toArray, List.set_cons_succ, List.set_cons_zero] | skip
  apply L.rd (i := 10) rfl (by kernel_rfl) hC rfl
  · intro W hW
    skip
    unfold readW
    go_simp
    first | rfl | exact ⟨rfl, rfl⟩
  first | simp only [Act.put, List.setIfInBounds_toArray, List.set_cons_succ, List.set_cons_zero] | skip
  apply L.rd (i := 11) rfl (by kernel_rfl) hC rfl
  · intro W hW
    skip
    unfold readW
    go_simp
    first | rfl | exact ⟨rfl, rfl⟩
  first | simp only [Act.put, List.setIfInBounds_toArray, List.set_cons_succ, List.set_cons_zero] | skip
  apply L.rd (i := 12) rfl (by kernel_rfl) hC rfl
  · intro W hW
    skip
    unfold readW
    go_simp
    first | rfl | exact ⟨rfl, rfl⟩
  first | simp only [Act.put, List.setIfInBounds_toArray, List.set_cons_succ, List.set_cons_zero] | skip
  apply L.rd (i := 13) rfl (by kernel_rfl) hC rfl
  · intro W hW
    skip
    unfold readW
    go_simp
    first | rfl | exact ⟨rfl, rfl⟩
  first | simp only [Act.put, List.setIfInBounds_toArray, List.set_cons_succ, List.set_cons_zero] | skip
  apply L.rd (i := 14) rfl (by kernel_rfl) hC rfl
  · intro W hW
    have n0 := (hW.cell (p := ⟨p, 2, none⟩) hpl).trans y2
    unfold readW
    go_simp
    first | rfl | exact ⟨rfl, rfl⟩
  first | simp only [Act.put, List.setIfInBounds_toArray, List.set_cons_succ, List.set_cons_zero] | skip
  apply L.rd (i := 15) rfl (by kernel_rfl) hC rfl
  · intro W hW
    skip
    unfold readW
    go_simp
    first | rfl | exact ⟨rfl, rfl⟩
  first | simp only [Act.put, List.setIfInBounds_toArray, List.set_cons_succ, List.set_cons_zero] | skip
  apply L.rd (i := 16) rfl (by kernel_rfl) hC rfl
  · intro W hW
    skip
    unfold readW
    go_simp
    first | rfl | exact ⟨rfl, rfl⟩
  first | simp only [Act.put, List.setIfInBounds_toArray, List.set_cons_succ, List.set_cons_zero] | skip
  apply L.rd (i := 17) rfl (by kernel_rfl) hC rfl
  · intro W hW
    skip
    unfold readW
    go_simp
    first | rfl | exact ⟨rfl, rfl⟩
  first | simp only [Act.put, List.setIfInBounds_toArray, List.set_cons_succ, List.set_cons_zero] | skip
  apply L.rd (i := 18) rfl (by kernel_rfl) hC rfl
  · intro W hW
    skip
    unfold readW
    go_simp
    first | rfl | exact ⟨rfl, rfl⟩
  first | simp only [Act.put, List.setIfInBounds_toArray, List.set_cons_succ, List.set_cons_zero] | skip
  apply L.rd (i := 19) rfl (by kernel_rfl) hC rfl
  · intro W hW
    have n0 := (hW.cell (p := ⟨p, 5, none⟩) hpl).trans y5; have n1 := (hW.cell (p := ⟨p, 6, none⟩) hpl).trans y6
    unfold readW
    go_simp
    first | rfl | exact ⟨rfl, rfl⟩
  first | simp only [Act.put, List.setIfInBounds_toArray, List.set_cons_succ, List.set_cons_zero] | skip
  apply L.rd (i := 20) rfl (by kernel_rfl) hC rfl
  · intro W hW
    skip
    unfold readW
    go_simp
    first | rfl | exact ⟨rfl, rfl⟩
  first | simp only [Act.put, List.setIfInBounds_toArray, List.set_cons_succ, List.set_cons_zero] | skip
  clear y0 y1 y2 y5 y6
  apply L.two (i := 21) (k := 26) rfl rfl (by kernel_rfl) rfl rfl
  · unfold stepT
    go_simp
    go_at_call 25
    first | rw [hmi] | skip
    refine (HLI.out wd (HW.out.trans (hC.mono (by have := HW.out.size; omega)))).mono ?_
    rintro e wn ⟨hbn, V2, c2, rfl, hown2⟩
    have hC := hC.trans (hbn.mono hbw)
    have hO := own_below HD.out hbn
    refine ⟨_, rfl, hC, ?_⟩
    first | simp only [Act.put, List.setIfInBounds_toArray, List.set_cons_succ, List.set_cons_zero] | skip
    apply L.rd (i := 22) rfl (by kernel_rfl) hC rfl
    · intro W hW
      skip
      unfold readW
      go_simp
      first | rfl | exact ⟨rfl, rfl⟩
    first | simp only [Act.put, List.setIfInBounds_toArray, List.set_cons_succ, List.set_cons_zero] | skip
    apply L.rd (i := 23) rfl (by kernel_rfl) hC rfl
    · intro W hW
      skip
      unfold readW
      go_simp
      first | rfl | exact ⟨rfl, rfl⟩
    first | simp only [Act.put, List.setIfInBounds_toArray, List.set_cons_succ, List.set_cons_zero] | skip
    apply L.rd (i := 24) rfl (by kernel_rfl) hC rfl
    · intro W hW
      skip
      unfold readW
      go_simp
      first | rfl | exact ⟨rfl, rfl⟩
    first | simp only [Act.put, List.setIfInBounds_toArray, List.set_cons_succ, List.set_cons_zero] | skip
    apply L.rd (i := 25) rfl (by kernel_rfl) hC rfl
    · intro W hW
      skip
      unfold readW
      go_simp
      first | rfl | exact ⟨rfl, rfl⟩
    first | simp only [Act.put, List.setIfInBounds_toArray, List.set_cons_succ, List.set_cons_zero] | skip
    apply L.one (i := 26) rfl (by kernel_rfl) rfl
    unfold stepT
    go_simp
    have hbx : Blk (wn.alloc (.cells #[.string ⟨#[]⟩, .bool false] 50)) wn.heap.size 50 #[.string ⟨#[]⟩, .bool false] := blk_at rfl
    have hnb : w.heap.size ≤ wn.heap.size := hC.size
    have hC := hC.alloc hnb (.cells #[.string ⟨#[]⟩, .bool false] 50)
    have hO := hO.alloc (.cells #[.string ⟨#[]⟩, .bool false] 50)
    have hown2 := hown2.alloc (.cells #[.string ⟨#[]⟩, .bool false] 50)
    generalize (wn.alloc (.cells #[.string ⟨#[]⟩, .bool false] 50)) = wk at hbx hC hO hown2 ⊢
    generalize wn.heap.size = nb at hbx hnb ⊢
    clear hbn
    have hnp : nb ≠ p := by omega
    refine ⟨hC, ?_⟩
    first | simp only [Act.put, List.setIfInBounds_toArray, List.set_cons_succ, List.set_cons_zero] | skip
    apply L.rd (i := 27) rfl (by kernel_rfl) hC rfl
    · intro W hW
      skip
      unfold readW
      go_simp
      first | rfl | exact ⟨rfl, rfl⟩
    first | simp only [Act.put, List.setIfInBounds_toArray, List.set_cons_succ, List.set_cons_zero] | skip
    have hneO : some nb ≠ (Value.slice V f.length c).ownBlock := own_ne_t hbx hO (by decide)
    have hne2 : some nb ≠ (Value.slice V2 l2.length c2).ownBlock := own_ne_t hbx hown2 (by decide)
    have zz0 : wk.cell? ⟨nb, 0, none⟩ = some (.string ⟨#[]⟩) := hbx.cell 0; have zz1 : wk.cell? ⟨nb, 1, none⟩ = some (.bool false) := hbx.cell 1; have zf0 := hbx.frozen 0; have zf1 := hbx.frozen 1; have ze0 : (wk.setCell ⟨nb, 0, none⟩ (.string cs2)).cell? ⟨nb, 0, none⟩ = some (.string cs2) := (hbx.set_ 0 _).cell 0; have ze1 : ((wk.setCell ⟨nb, 0, none⟩ (.string cs2)).setCell ⟨nb, 1, none⟩ (.bool cb2)).cell? ⟨nb, 1, none⟩ = some (.bool cb2) := ((hbx.set_ 0 _).set_ 1 _).cell 1
    apply L.one (i := 28) rfl (by kernel_rfl) rfl
    unfold stepT
    go_simp
    have hC2 : Below w.heap.size w ((wk.setCell ⟨nb, 0, none⟩ (.string cs2)).setCell ⟨nb, 1, none⟩ (.bool cb2)) := (hC.setCell hnb _).setCell hnb _
    have hbx2 : Blk ((wk.setCell ⟨nb, 0, none⟩ (.string cs2)).setCell ⟨nb, 1, none⟩ (.bool cb2)) nb 50 #[.string cs2, .bool cb2] := (hbx.set_ 0 _).set_ 1 _
    have hO2 := own_setne (own_setne hO hneO 0 (.string cs2)) hneO 1 (.bool cb2)
    have hown22 := own_setne (own_setne hown2 hne2 0 (.string cs2)) hne2 1 (.bool cb2)
    generalize ((wk.setCell ⟨nb, 0, none⟩ (.string cs2)).setCell ⟨nb, 1, none⟩ (.bool cb2)) = wm at hC2 hbx2 hO2 hown22 ⊢
    have hC := hC2
    refine ⟨hC2, ?_⟩
    first | simp only [Act.put, List.setIfInBounds_toArray, List.set_cons_succ, List.set_cons_zero] | skip
    apply L.rd (i := 29) rfl (by kernel_rfl) hC rfl
    · intro W hW
      skip
      unfold readW
      go_simp
      first | rfl | exact ⟨rfl, rfl⟩
    first | simp only [Act.put, List.setIfInBounds_toArray, List.set_cons_succ, List.set_cons_zero] | skip
    refine L.done (by kernel_rfl) ?_
    have hBm := HB.out.below hC2 hpl
    have y4m : wm.cell? ⟨p, 4, none⟩ = some (.slice V f.length c) := hBm.cell 4
    have HBX := Lib.hid hbx2
    have HC2 := Lib.hid hC2
    have hwm := hC2.size
    clear hO hown2 hC hbx hneO hne2 y4 y7 hC2 hbx2
    go_wp2_with (at_builtin; refine wpList_append_own_new rfl _ _ _ rfl base wd.heap.size 9 is _ 1 16 Try.underlying25 his hsz0 hsz1 hsz2 rfl (by decide) _ _ _ rfl hO2 V2 l2.length c2 _ rfl hown22 (by intro u hu; obtain ⟨x, _, rfl⟩ := List.mem_map.1 hu; rfl) (by unfold maxLen; omega) (by omega) (by omega) ?_; intro v' w5 hown5 hgr5 hat5; obtain ⟨V5, c5, rfl⟩ := own_form hown5; have hE := HEND.out wm w5 V5 c5 ((l : Int) - (m : Int)) HC2.out hBm hO2 hgr5 hown5 hat5 (by omega); have hB5 := hBm.grown hgr5 (own_ne_t hBm hO2 (by decide)); have hX5 := HBX.out.grown hgr5 (own_ne_t HBX.out hO2 (by decide)); have q0 : w5.cell? ⟨nb, 0, none⟩ = some (.string cs2) := hX5.cell 0; have q1 : w5.cell? ⟨nb, 1, none⟩ = some (.bool cb2) := hX5.cell 1; have q7 : w5.cell? ⟨p, 7, none⟩ = some (.int .i64 l) := hB5.cell 7; have f4 := hB5.frozen 4; have f5 := hB5.frozen 5; have f6 := hB5.frozen 6; have f7 := hB5.frozen 7; have p4 : w5.cell? ⟨p, 4, none⟩ = some (.slice V f.length c) := hB5.cell 4; have p5 : w5.cell? ⟨p, 5, none⟩ = some (.string cs) := hB5.cell 5; have p6 : w5.cell? ⟨p, 6, none⟩ = some (.bool cb) := hB5.cell 6; have HE := Lib.hid hE; clear hE hB5 hX5 hown5 hgr5 hat5 hBm hO2 hown22 y4m)
    go_wp2
    go_end0
    exact HE.out
  · unfold stepT
    go_simp
    have hbx : Blk (wd.alloc (.cells #[.string ⟨#[]⟩, .bool false] 50)) wd.heap.size 50 #[.string ⟨#[]⟩, .bool false] := blk_at rfl
    have hC := hC.alloc hbw (.cells #[.string ⟨#[]⟩, .bool false] 50)
    have hO := HD.out.alloc (.cells #[.string ⟨#[]⟩, .bool false] 50)
    generalize (wd.alloc (.cells #[.string ⟨#[]⟩, .bool false] 50)) = wa at hbx hC hO ⊢
    generalize wd.heap.size = nb at hbx hbw ⊢
    have hnb : w.heap.size ≤ nb := hbw
    have hnp : nb ≠ p := by omega
    refine ⟨hC, ?_⟩
    first | simp only [Act.put, List.setIfInBounds_toArray, List.set_cons_succ, List.set_cons_zero] | skip
    apply L.one (i := 21) rfl (by kernel_rfl) rfl
    unfold stepT
    go_simp
    go_at_call 25
    first | rw [hmi] | skip
    refine (HLI.out wa (HW.out.trans (hC.mono (by have := HW.out.size; omega)))).mono ?_
    rintro e wk ⟨hbn, V2, c2, rfl, hown2⟩
    have hC := hC.trans (hbn.mono hC.size)
    have hO := own_below hO hbn
    have hbx := hbx.below hbn hbx.lt
    clear hbn
    refine ⟨_, rfl, hC, ?_⟩
    first | simp only [Act.put, List.setIfInBounds_toArray, List.set_cons_succ, List.set_cons_zero] | skip
    apply L.rd (i := 22) rfl (by kernel_rfl) hC rfl
    · intro W hW
      skip
      unfold readW
      go_simp
      first | rfl | exact ⟨rfl, rfl⟩
    first | simp only [Act.put, List.setIfInBounds_toArray, List.set_cons_succ, List.set_cons_zero] | skip
    apply L.rd (i := 23) rfl (by kernel_rfl) hC rfl
    · intro W hW
      skip
      unfold readW
      go_simp
      first | rfl | exact ⟨rfl, rfl⟩
    first | simp only [Act.put, List.setIfInBounds_toArray, List.set_cons_succ, List.set_cons_zero] | skip
    apply L.rd (i := 24) rfl (by kernel_rfl) hC rfl
    · intro W hW
      skip
      unfold readW
      go_simp
      first | rfl | exact ⟨rfl, rfl⟩
    first | simp only [Act.put, List.setIfInBounds_toArray, List.set_cons_succ, List.set_cons_zero] | skip
    apply L.rd (i := 25) rfl (by kernel_rfl) hC rfl
    · intro W hW
      skip
      unfold readW
      go_simp
      first | rfl | exact ⟨rfl, rfl⟩
    first | simp only [Act.put, List.setIfInBounds_toArray, List.set_cons_succ, List.set_cons_zero] | skip
    apply L.rd (i := 27) rfl (by kernel_rfl) hC rfl
    · intro W hW
      skip
      unfold readW
      go_simp
      first | rfl | exact ⟨rfl, rfl⟩
    first | simp only [Act.put, List.setIfInBounds_toArray, List.set_cons_succ, List.set_cons_zero] | skip
    have hneO : some nb ≠ (Value.slice V f.length c).ownBlock := own_ne_t hbx hO (by decide)
    have hne2 : some nb ≠ (Value.slice V2 l2.length c2).ownBlock := own_ne_t hbx hown2 (by decide)
    have zz0 : wk.cell? ⟨nb, 0, none⟩ = some (.string ⟨#[]⟩) := hbx.cell 0; have zz1 : wk.cell? ⟨nb, 1, none⟩ = some (.bool false) := hbx.cell 1; have zf0 := hbx.frozen 0; have zf1 := hbx.frozen 1; have ze0 : (wk.setCell ⟨nb, 0, none⟩ (.string cs2)).cell? ⟨nb, 0, none⟩ = some (.string cs2) := (hbx.set_ 0 _).cell 0; have ze1 : ((wk.setCell ⟨nb, 0, none⟩ (.string cs2)).setCell ⟨nb, 1, none⟩ (.bool cb2)).cell? ⟨nb, 1, none⟩ = some (.bool cb2) := ((hbx.set_ 0 _).set_ 1 _).cell 1
    apply L.one (i := 28) rfl (by kernel_rfl) rfl
    unfold stepT
    go_simp
    have hC2 : Below w.heap.size w ((wk.setCell ⟨nb, 0, none⟩ (.string cs2)).setCell ⟨nb, 1, none⟩ (.bool cb2)) := (hC.setCell hnb _).setCell hnb _
    have hbx2 : Blk ((wk.setCell ⟨nb, 0, none⟩ (.string cs2)).setCell ⟨nb, 1, none⟩ (.bool cb2)) nb 50 #[.string cs2, .bool cb2] := (hbx.set_ 0 _).set_ 1 _
    have hO2 := own_setne (own_setne hO hneO 0 (.string cs2)) hneO 1 (.bool cb2)
    have hown22 := own_setne (own_setne hown2 hne2 0 (.string cs2)) hne2 1 (.bool cb2)
    generalize ((wk.setCell ⟨nb, 0, none⟩ (.string cs2)).setCell ⟨nb, 1, none⟩ (.bool cb2)) = wm at hC2 hbx2 hO2 hown22 ⊢
    have hC := hC2
    refine ⟨hC2, ?_⟩
    first | simp only [Act.put, List.setIfInBounds_toArray, List.set_cons_succ, List.set_cons_zero] | skip
    apply L.rd (i := 29) rfl (by kernel_rfl) hC rfl
    · intro W hW
      skip
      unfold readW
      go_simp
      first | rfl | exact ⟨rfl, rfl⟩
    first | simp only [Act.put, List.setIfInBounds_toArray, List.set_cons_succ, List.set_cons_zero] | skip
    refine L.done (by kernel_rfl) ?_
    have hBm := HB.out.below hC2 hpl
    have y4m : wm.cell? ⟨p, 4, none⟩ = some (.slice V f.length c) := hBm.cell 4
    have HBX := Lib.hid hbx2
    have HC2 := Lib.hid hC2
    have hwm := hC2.size
    clear hO hown2 hC hbx hneO hne2 y4 y7 hC2 hbx2
    go_wp2_with (at_builtin; refine wpList_append_own_new rfl _ _ _ rfl base wa.heap.size 9 is _ 1 16 Try.underlying25 his hsz0 hsz1 hsz2 rfl (by decide) _ _ _ rfl hO2 V2 l2.length c2 _ rfl hown22 (by intro u hu; obtain ⟨x, _, rfl⟩ := List.mem_map.1 hu; rfl) (by unfold maxLen; omega) (by omega) (by omega) ?_; intro v' w5 hown5 hgr5 hat5; obtain ⟨V5, c5, rfl⟩ := own_form hown5; have hE := HEND.out wm w5 V5 c5 ((l : Int) - (m : Int)) HC2.out hBm hO2 hgr5 hown5 hat5 (by omega); have hB5 := hBm.grown hgr5 (own_ne_t hBm hO2 (by decide)); have hX5 := HBX.out.grown hgr5 (own_ne_t HBX.out hO2 (by decide)); have q0 : w5.cell? ⟨nb, 0, none⟩ = some (.string cs2) := hX5.cell 0; have q1 : w5.cell? ⟨nb, 1, none⟩ = some (.bool cb2) := hX5.cell 1; have q7 : w5.cell? ⟨p, 7, none⟩ = some (.int .i64 l) := hB5.cell 7; have f4 := hB5.frozen 4; have f5 := hB5.frozen 5; have f6 := hB5.frozen 6; have f7 := hB5.frozen 7; have p4 : w5.cell? ⟨p, 4, none⟩ = some (.slice V f.length c) := hB5.cell 4; have p5 : w5.cell? ⟨p, 5, none⟩ = some (.string cs) := hB5.cell 5; have p6 : w5.cell? ⟨p, 6, none⟩ = some (.bool cb) := hB5.cell 6; have HE := Lib.hid hE; clear hE hB5 hX5 hown5 hgr5 hat5 hBm hO2 hown22 y4m)
    go_wp2
    go_end0
    exact HE.out
end Go.Proofs.Ytlamphneimpdlaa
