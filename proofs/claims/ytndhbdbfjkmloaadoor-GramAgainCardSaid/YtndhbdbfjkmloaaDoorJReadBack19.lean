/- gram.rules and gram.Read. gram.Read. -/
import Derived.Test.YtndhbdbfjkmloaaDoorJReadBack15
import Derived.Test.YtndhbdbfjkmloaaDoorJReadBack18
namespace Go.Proofs.YtndhbdbfjkmloaaDoor
open Go.RowKit Go.Maps

theorem rules1_fault (i : Nat) (pa pb : Nat) (w : World) (va vb : Value) (ta tb : TypeId) (ha : Blk w pa ta #[va]) (hb : Blk w pb tb #[vb]) (hab : pa ≠ pb) :
    CallsD Tryd.prog 66 #[.pointer (some ⟨pa, 0, none⟩), .pointer (some ⟨pb, 0, none⟩)] (.panicking [{ v := faultV i, recovered := false }]) w fun e u' w' =>
      e = .returned (.tuple #[]) ∧ u' = .panicking [{ v := faultV i, recovered := true }] ∧ w' = ((w.setCell ⟨pa, 0, none⟩ (.int .i64 (i : Int))).setCell ⟨pb, 0, none⟩ (.int .i64 4)).alloc (.cells #[.int .i64 (i : Int)] 168) := by
  refine callsD_of_wpS Tryd.func66 rfl fun c₀ cs hu => ?_
  apply wpS_region
  simp [wpOpsS, go_sem, recoverD, hu, Tryd.ntmps66]
  refine (catch_fault i pa pb w va vb ta tb ha hb hab).mono ?_
  rintro e w1 ⟨rfl, rfl⟩
  simp [bodyPostS, results, Tryd.results66]
theorem rules1_idle (pa pb : Nat) (w : World) :
    CallsD Tryd.prog 66 #[.pointer (some ⟨pa, 0, none⟩), .pointer (some ⟨pb, 0, none⟩)] .returning w fun e u' w' =>
      e = .returned (.tuple #[]) ∧ u' = .returning ∧ w' = w := by
  refine callsD_of_wpS Tryd.func66 rfl fun c₀ cs hu => ?_
  apply wpS_region
  simp [wpOpsS, go_sem, recoverD, hu, Tryd.ntmps66]
  refine (catch_nil ⟨pa, 0, none⟩ ⟨pb, 0, none⟩ w).mono ?_
  rintro e w1 ⟨rfl, rfl⟩
  simp [bodyPostS, results, Tryd.results66]
  cases c₀
  simp_all
/-- while rules are read -/
structure RuI (s : ByteArray) (w : World) (acc : List Rl) (V : Option Addr) (cv : Nat) (rows : Nat → List Value) (l : List UInt8) (wr : World) : Prop where
  bel : Below w.heap.size w wr
  gbx : Blk wr w.heap.size 39 #[.slice V acc.length cv]
  abx : Blk wr (w.heap.size + 1) 3 #[.int .i64 0]
  xbx : Blk wr (w.heap.size + 1 + 1) 28 #[.int .i64 0]
  rus : Rus (w.heap.size + 1 + 1 + 1 + 1) wr acc V cv rows
  rd : RdAt s true (w.heap.size + 1 + 1 + 1) l wr
  few : acc.length + l.length ≤ s.size + 1
section
variable {s : ByteArray} {w : World} {acc : List Rl} {V : Option Addr} {cv : Nat} {rows : Nat → List Value} {l l' : List UInt8} {wr W' : World}
theorem Rus.grownR {base : Nat} (h : Rus base wr acc V cv rows) {rb : Nat} (hrb : rb < base) (hg : wr.grownBy W' (some rb)) : Rus base W' acc V cv rows :=
  ⟨own_far h.own hg hrb, h.small, fun i e he => ((h.body i e he).keep (W' := W') fun p hp => World.cell?_of_block (hg.block p.block hp.2.1 (by intro e; injection e with e; have := hp.1; omega))).mono (fun b hb => ⟨hb.1, Nat.lt_of_lt_of_le hb.2.1 hg.size, hb.2.2⟩) hg.size⟩
theorem RuI.went (H : RuI s w acc V cv rows l wr) (hg : wr.grownBy W' (some (w.heap.size + 1 + 1 + 1))) (hr : RdAt s true (w.heap.size + 1 + 1 + 1) l' W') (hl : l'.length ≤ l.length) : RuI s w acc V cv rows l' W' :=
  ⟨H.bel.grown hg H.bel.size (fun k hk => by injection hk with hk; omega), H.gbx.grown hg (fun e => by injection e with e; omega), H.abx.grown hg (fun e => by injection e with e; omega), H.xbx.grown hg (fun e => by injection e with e; omega), H.rus.grownR (by omega) hg, hr, by have := H.few; omega⟩
theorem RuI.below (H : RuI s w acc V cv rows l wr) (hb : Below wr.heap.size wr W') : RuI s w acc V cv rows l W' :=
  H.went (grown_of_below hb _) (H.rd.below hb) (Nat.le_refl _)
end
section
variable {s : ByteArray} {w : World} {acc : List Rl} {V : Option Addr} {cv : Nat} {rows : Nat → List Value} {l : List UInt8} {wr W' : World}
theorem RuI.ne (H : RuI s w acc V cv rows l wr) {k : Nat} (hk : k < w.heap.size + 1 + 1 + 1 + 1) : some k ≠ (Value.slice V acc.length cv).ownBlock := fun e => by have := (H.rus.own.lt _ e.symm).1; omega
/-- one rule more -/
theorem RuI.push (H : RuI s w acc V cv rows l wr) {V' : Option Addr} {c' lo : Nat} {r : Rl} {rc : List Value} (hlo : w.heap.size + 1 + 1 + 1 + 1 ≤ lo) (hold : ∀ q, (Value.slice V acc.length cv).ownBlock = some q → q < lo) (hn : r.1.size ≤ maxLen) (hE : ExF (fun b => lo ≤ b ∧ b < wr.heap.size) wr.heap.size wr r.2 rc)
    (hown : W'.ownsRow (w.heap.size + 1 + 1 + 1 + 1) 71 8 (.slice V' (acc.length + 1) c') (acc.length + 1) (ruF acc rows 0 ++ (.string r.1 :: rc))) (hg : wr.grownBy W' (Value.slice V acc.length cv).ownBlock)
    (hat : (Value.slice V' (acc.length + 1) c').ownBlock = (Value.slice V acc.length cv).ownBlock ∨ (Value.slice V' (acc.length + 1) c').ownBlock = some wr.heap.size) (hf : acc.length + 1 + l.length ≤ s.size + 1) :
    RuI s w (acc ++ [r]) V' c' (fun i => if i = acc.length then rc else rows i) l (W'.setCell ⟨w.heap.size, 0, none⟩ (.slice V' (acc.length + 1) c')) := by
  have hl : (acc ++ [r]).length = acc.length + 1 := by simp
  have h1 := H.gbx.grown hg (H.ne (by omega))
  refine ⟨(H.bel.grown hg H.bel.size (fun k hk => by have := (H.rus.own.lt k hk).1; omega)).setCell (Nat.le_refl _) _, ?_, (H.abx.grown hg (H.ne (by omega))).far (show w.heap.size + 1 ≠ w.heap.size by omega) _, (H.xbx.grown hg (H.ne (by omega))).far (show w.heap.size + 1 + 1 ≠ w.heap.size by omega) _, (H.rus.push hlo hold hn hE hown hg hat).far (by omega) _ _, ?_, by rw [hl]; omega⟩
  · rw [hl]
    exact h1.set_ 0 _
  · have h2 := H.rd.grown hg (H.ne (by omega))
    exact ⟨h2.blk.far (show w.heap.size + 1 + 1 + 1 ≠ w.heap.size by omega) _, h2.sfx, h2.good⟩
end
theorem nm_small (l : List UInt8) : (nmL l).size ≤ l.length := by
  unfold nmL
  cases ht : tokL l with
  | nd e n =>
    obtain ⟨_, _, k, a, b, c, d, t, rfl, _, _, _, _, _, htl⟩ := tok_nd ht
    exact htl
  | _ => exact Nat.zero_le _
/-- what rules leaves -/
def RulesQ (s : ByteArray) (w : World) (e : Ending) (w' : World) : Prop :=
  Below w.heap.size w w' ∧ ∃ R, WholeG s.data.toList R ∧ ((∃ g A cp rows, R = .ok g ∧ e = .returned (.tuple #[.agg #[.slice A g.length cp], .int .i64 0, .int .i64 0]) ∧ Rus (w.heap.size + 1 + 1 + 1 + 1) w' g A cp rows) ∨
    (∃ l A n cp, R = .no l ∧ e = .returned (.tuple #[.agg #[.slice A n cp], .int .i64 (posL s l : Int), .int .i64 4])))
set_option maxRecDepth 100000 in
set_option maxHeartbeats 4000000 in
theorem rules_any (s : ByteArray) (hs : s.size ≤ 100000) (w : World) : Calls Tryd.prog 32 #[.string s] w (RulesQ s w) := by
  have hmf : ∀ (fn : Fn) (first cap : Array Value) (w : World), (Instr.makeFunc fn first cap).run Tryd.prog w = .ok (.func fn first cap) w := fun _ _ _ _ => rfl
  have HQ : Hid ((∀ (g : List Rl) (A : Option Addr) (cp : Nat) (rows : Nat → List Value) (W' : World), WholeG s.data.toList (.ok g) → Below w.heap.size w W' → Rus (w.heap.size + 1 + 1 + 1 + 1) W' g A cp rows →
        RulesQ s w (.returned (.tuple #[.agg #[.slice A g.length cp], .int .i64 0, .int .i64 0])) W') ∧
      (∀ (l : List UInt8) (A : Option Addr) (n cp : Nat) (W' : World), WholeG s.data.toList (.no l) → Below w.heap.size w W' → RulesQ s w (.returned (.tuple #[.agg #[.slice A n cp], .int .i64 (posL s l : Int), .int .i64 4])) W')) :=
    ⟨fun g A cp rows W' h1 h2 h3 => ⟨h2, _, h1, .inl ⟨g, A, cp, rows, rfl, rfl, h3⟩⟩, fun l A n cp W' h1 h2 => ⟨h2, _, h1, .inr ⟨l, A, n, cp, rfl, rfl⟩⟩⟩
  generalize RulesQ s w = Q at HQ ⊢
  obtain ⟨i0, hi0, hz0, hz1, hz2⟩ := info_parts rule_info
  obtain ⟨f, R, hf⟩ := grJ_ends _ [] (skipL false s.data.toList) (Nat.le_refl _)
  have hsl := size_list s
  have hskl := skip_le false s.data.toList
  rw [hsl] at hskl
  have hz3 : (((w.alloc (.cells #[.slice none 0 0] 39)).alloc (.cells #[.int .i64 0] 3)).alloc (.cells #[.int .i64 0] 28)).heap.size = w.heap.size + 1 + 1 + 1 := by simp
  have b1 : Blk (((w.alloc (.cells #[.slice none 0 0] 39)).alloc (.cells #[.int .i64 0] 3)).alloc (.cells #[.int .i64 0] 28)) w.heap.size 39 #[.slice none 0 0] := ((blk_at rfl).alloc _).alloc _
  have b2 : Blk (((w.alloc (.cells #[.slice none 0 0] 39)).alloc (.cells #[.int .i64 0] 3)).alloc (.cells #[.int .i64 0] 28)) (w.heap.size + 1) 3 #[.int .i64 0] := (blk_at (by simp)).alloc _
  have b3 : Blk (((w.alloc (.cells #[.slice none 0 0] 39)).alloc (.cells #[.int .i64 0] 3)).alloc (.cells #[.int .i64 0] 28)) (w.heap.size + 1 + 1) 28 #[.int .i64 0] := blk_at (by simp)
  have hb0 : Below w.heap.size w (((w.alloc (.cells #[.slice none 0 0] 39)).alloc (.cells #[.int .i64 0] 3)).alloc (.cells #[.int .i64 0] 28)) := (((Below.refl _ _).alloc (Nat.le_refl _) _).alloc (by simp) _).alloc (by simp; omega) _
  clear hsl
  go_enter_defers Tryd.func32, Tryd.ntmps32
  go_wp2_with fail
  refine (newr_any s hs true _).mono ?_
  generalize (((w.alloc (.cells #[.slice none 0 0] 39)).alloc (.cells #[.int .i64 0] 3)).alloc (.cells #[.int .i64 0] 28)) = w3 at hz3 b1 b2 b3 hb0 ⊢
  rintro e w4 ⟨hbel, hsz, ⟨hbad, rfl⟩ | ⟨hgood, rfl, hr⟩⟩
  · have d1 := b1.below hbel b1.lt
    have d2 := b2.below hbel b2.lt
    have d3 := b3.below hbel b3.lt
    have hb4 := hb0.trans (hbel.mono (by omega))
    have hW : WholeG s.data.toList (.no (skipL false s.data.toList)) := .inl ⟨hbad, rfl⟩
    have HW := Lib.hid hW
    clear b1 b2 b3 hbel hW hskl
    go_wp2
    refine leaves_cons (f := 66) (args := #[.pointer (some ⟨w.heap.size + 1, 0, none⟩), .pointer (some ⟨w.heap.size + 1 + 1, 0, none⟩)]) (by simp) (by simp [go_sem]) ?_
    refine (rules1_fault (posL s (skipL false s.data.toList)) (w.heap.size + 1) (w.heap.size + 1 + 1) w4 _ _ _ _ d2 d3 (by omega)).mono ?_
    rintro e u' w8 ⟨rfl, rfl, hw8⟩
    have c1 : Blk w8 w.heap.size 39 #[.slice none 0 0] := by
      rw [hw8]
      exact (((d1).far (show w.heap.size ≠ w.heap.size + 1 by omega) _).far (show w.heap.size ≠ w.heap.size + 1 + 1 by omega) _).alloc _
    have c2 : Blk w8 (w.heap.size + 1) 3 #[.int .i64 ((posL s (skipL false s.data.toList)) : Int)] := by
      rw [hw8]
      exact (((d2).set_ 0 _).far (show w.heap.size + 1 ≠ w.heap.size + 1 + 1 by omega) _).alloc _
    have c3 : Blk w8 (w.heap.size + 1 + 1) 28 #[.int .i64 4] := by
      rw [hw8]
      exact (((d3).far (show w.heap.size + 1 + 1 ≠ w.heap.size + 1 by omega) _).set_ 0 _).alloc _
    have c4 : Below w.heap.size w w8 := by
      rw [hw8]
      exact (((hb4).setCell (show w.heap.size ≤ w.heap.size + 1 by omega) _).setCell (show w.heap.size ≤ w.heap.size + 1 + 1 by omega) _).alloc (by have := (d1).lt; simp [World.setCell]; omega) _
    clear hw8
    have q0 := c1.cell 0
    have q7 := c2.cell 0
    have q8 := c3.cell 0
    clear c1 c2 c3
    simp [Leaves, settle, results, Tryd.results32, go_sem, q0, q7, q8]
    exact HQ.out.2 _ _ _ _ _ HW.out c4
  · have d1 := b1.below hbel b1.lt
    have d2 := b2.below hbel b2.lt
    have d3 := b3.below hbel b3.lt
    have hb4 := hb0.trans (hbel.mono (by omega))
    clear b1 b2 b3 hbel hb0
    rw [hz3] at hr hsz
    have hI : RuI s w [] none 0 (fun _ => []) (skipL false s.data.toList) w4 := ⟨hb4, d1, d2, d3, Rus.nil _ _, hr, by simp; omega⟩
    have HI := Lib.hid hI
    have HWG : Hid (∀ R', grJ f [] (skipL false s.data.toList) = some R' → WholeG s.data.toList R') := fun R' h => .inr ⟨hgood, f, h⟩
    have HWR : Hid (WholeG s.data.toList R) := HWG.out R hf
    have HF := Lib.hid hf
    clear hI d1 d2 d3 hb4 hr hf hgood HWG hskl
    go_wp2_with fail
    clear hz3
    go_loopg [6] f (fun n s6 wr => ∃ (acc : List Rl) (V : Option Addr) (cv : Nat) (rows : Nat → List Value) (l' : List UInt8), Hid (RuI s w acc V cv rows l' wr) ∧ Hid (n ≤ f ∧ grJ n acc l' = some R))
    case atStart => exact ⟨[], none, 0, _, _, HI, Nat.le_refl _, HF.out⟩
    case round =>
      clear HI HF
      obtain ⟨acc, V, cv, rows, l', HI, HJ⟩ := hrel
      have hI := HI.out
      obtain ⟨hn, hjn⟩ := HJ.out
      obtain ⟨n', rfl⟩ : ∃ n', gk = n' + 1 := by
        cases gk with
        | zero => cases hjn
        | succ n => exact ⟨n, rfl⟩
      rw [grJ] at hjn
      have HNM := Lib.hid (names_any s hs true (w.heap.size + 1 + 1 + 1) l' wr hI.rd)
      cases hnm : namesL true l' with
      | false =>
        rw [if_pos hnm] at hjn
        rw [hnm] at HNM
        have HRE : Hid (R = .no l') := (Option.some.inj hjn).symm
        clear hjn hnm HJ
        go_wp2_with fail
        refine HNM.out.mono ?_
        rintro e w5 ⟨rfl, hb5⟩
        have hI5 := hI.below hb5
        have hbd := badR_any s true (w.heap.size + 1 + 1 + 1) l' w5 hI5.rd
        have HI5 := Lib.hid hI5
        clear hI HI hI5 hb5
        go_wp2_with fail
        refine hbd.mono ?_
        rintro e w6 ⟨rfl, hw6⟩
        subst w6
        have HW : Hid (WholeG s.data.toList (.no l')) := by
          show WholeG _ _
          rw [← HRE.out]
          exact HWR.out
        have d1 := HI5.out.gbx
        have d2 := HI5.out.abx
        have d3 := HI5.out.xbx
        have hb4 := HI5.out.bel
        clear hbd HRE HWR HNM
        go_wp2
        refine leaves_cons (f := 66) (args := #[.pointer (some ⟨w.heap.size + 1, 0, none⟩), .pointer (some ⟨w.heap.size + 1 + 1, 0, none⟩)]) (by simp) (by simp [go_sem]) ?_
        refine (rules1_fault (posL s l') (w.heap.size + 1) (w.heap.size + 1 + 1) w5 _ _ _ _ d2 d3 (by omega)).mono ?_
        rintro e u' w8 ⟨rfl, rfl, hw8⟩
        have c1 : Blk w8 w.heap.size 39 #[.slice V acc.length cv] := by
          rw [hw8]
          exact (((d1).far (show w.heap.size ≠ w.heap.size + 1 by omega) _).far (show w.heap.size ≠ w.heap.size + 1 + 1 by omega) _).alloc _
        have c2 : Blk w8 (w.heap.size + 1) 3 #[.int .i64 ((posL s l') : Int)] := by
          rw [hw8]
          exact (((d2).set_ 0 _).far (show w.heap.size + 1 ≠ w.heap.size + 1 + 1 by omega) _).alloc _
        have c3 : Blk w8 (w.heap.size + 1 + 1) 28 #[.int .i64 4] := by
          rw [hw8]
          exact (((d3).far (show w.heap.size + 1 + 1 ≠ w.heap.size + 1 by omega) _).set_ 0 _).alloc _
        have c4 : Below w.heap.size w w8 := by
          rw [hw8]
          exact (((hb4).setCell (show w.heap.size ≤ w.heap.size + 1 by omega) _).setCell (show w.heap.size ≤ w.heap.size + 1 + 1 by omega) _).alloc (by have := (d1).lt; simp [World.setCell]; omega) _
        clear hw8
        have q0 := c1.cell 0
        have q7 := c2.cell 0
        have q8 := c3.cell 0
        clear c1 c2 c3
        simp [Leaves, settle, results, Tryd.results32, go_sem, q0, q7, q8]
        exact HQ.out.2 _ _ _ _ _ HW.out c4
      | true =>
        rw [if_neg (by rw [hnm]; decide)] at hjn
        rw [hnm] at HNM
        have HGO := Lib.hid (fun (x : List UInt8) (W : World) (hW : RdAt s true (w.heap.size + 1 + 1 + 1) x W) => go_any s hs true (w.heap.size + 1 + 1 + 1) x W hW)
        have y10 : wr.cell? ⟨w.heap.size + 1 + 1 + 1, 10, none⟩ = some (.string (nmL l')) := hI.rd.blk.cell 10
        have hrl := hI.rd.blk.lt
        have hll := hI.rd.pos.2.2
        have HNS := Lib.hid (show (nmL l').size ≤ maxLen by have := nm_small l'; unfold maxLen; omega)
        have HJN := Lib.hid hjn
        have hnx1 := nx_le l'
        have hnx2 := nx_le (nxL l')
        clear hjn hnm HJ hll
        go_wp2_with fail
        refine HNM.out.mono ?_
        rintro e w5 ⟨rfl, hb5⟩
        have z10 := (hb5.cell (p := ⟨w.heap.size + 1 + 1 + 1, 10, none⟩) hrl).trans y10
        have HI5 := Lib.hid (hI.below hb5)
        clear hI HI hb5 y10 hrl HNM
        generalize nmL l' = nm at z10 HNS HJN
        go_wp2_with fail
        refine (HGO.out l' w5 HI5.out.rd).mono ?_
        rintro e w6 ⟨hg6, ⟨hbad, rfl⟩ | ⟨hgood, rfl, hr6⟩⟩
        · have HRE : Hid (R = .no (nxL l')) := by
            have := HJN.out
            have hbad' : (tokL (nxL l')).isBad = true := hbad
            rw [if_pos hbad'] at this
            exact (Option.some.inj this).symm
          have HW : Hid (WholeG s.data.toList (.no (nxL l'))) := by
            show WholeG _ _
            rw [← HRE.out]
            exact HWR.out
          have d1 := HI5.out.gbx.grown hg6 (fun e => by injection e with e; omega)
          have d2 := HI5.out.abx.grown hg6 (fun e => by injection e with e; omega)
          have d3 := HI5.out.xbx.grown hg6 (fun e => by injection e with e; omega)
          have hb4 := HI5.out.bel.grown hg6 HI5.out.bel.size (fun k hk => by injection hk with hk; omega)
          clear HRE HWR HGO z10 HI5 hg6
          go_wp2
          refine leaves_cons (f := 66) (args := #[.pointer (some ⟨w.heap.size + 1, 0, none⟩), .pointer (some ⟨w.heap.size + 1 + 1, 0, none⟩)]) (by simp) (by simp [go_sem]) ?_
          refine (rules1_fault (posL s (nxL l')) (w.heap.size + 1) (w.heap.size + 1 + 1) w6 _ _ _ _ d2 d3 (by omega)).mono ?_
          rintro e u' w8 ⟨rfl, rfl, hw8⟩
          have c1 : Blk w8 w.heap.size 39 #[.slice V acc.length cv] := by
            rw [hw8]
            exact (((d1).far (show w.heap.size ≠ w.heap.size + 1 by omega) _).far (show w.heap.size ≠ w.heap.size + 1 + 1 by omega) _).alloc _
          have c2 : Blk w8 (w.heap.size + 1) 3 #[.int .i64 ((posL s (nxL l')) : Int)] := by
            rw [hw8]
            exact (((d2).set_ 0 _).far (show w.heap.size + 1 ≠ w.heap.size + 1 + 1 by omega) _).alloc _
          have c3 : Blk w8 (w.heap.size + 1 + 1) 28 #[.int .i64 4] := by
            rw [hw8]
            exact (((d3).far (show w.heap.size + 1 + 1 ≠ w.heap.size + 1 by omega) _).set_ 0 _).alloc _
          have c4 : Below w.heap.size w w8 := by
            rw [hw8]
            exact (((hb4).setCell (show w.heap.size ≤ w.heap.size + 1 by omega) _).setCell (show w.heap.size ≤ w.heap.size + 1 + 1 by omega) _).alloc (by have := (d1).lt; simp [World.setCell]; omega) _
          clear hw8
          have q0 := c1.cell 0
          have q7 := c2.cell 0
          have q8 := c3.cell 0
          clear c1 c2 c3
          simp [Leaves, settle, results, Tryd.results32, go_sem, q0, q7, q8]
          exact HQ.out.2 _ _ _ _ _ HW.out c4
        · have HI6 := Lib.hid (HI5.out.went hg6 hr6 hnx1)
          have hjn := HJN.out
          rw [if_neg (by intro h; have := h.symm.trans hgood; cases this)] at hjn
          clear HJN
          have HJN := Lib.hid hjn
          clear hjn hg6 hr6 HI5 z10 hgood
          go_wp2_with fail
          refine (HGO.out (nxL l') w6 HI6.out.rd).mono ?_
          rintro e w7 ⟨hg7, ⟨hbad, rfl⟩ | ⟨hgood, rfl, hr7⟩⟩
          · have HRE : Hid (R = .no (nxL (nxL l'))) := by
              have := HJN.out
              have hbad' : (tokL (nxL (nxL l'))).isBad = true := hbad
              rw [if_pos hbad'] at this
              exact (Option.some.inj this).symm
            have HW : Hid (WholeG s.data.toList (.no (nxL (nxL l')))) := by
              show WholeG _ _
              rw [← HRE.out]
              exact HWR.out
            have d1 := HI6.out.gbx.grown hg7 (fun e => by injection e with e; omega)
            have d2 := HI6.out.abx.grown hg7 (fun e => by injection e with e; omega)
            have d3 := HI6.out.xbx.grown hg7 (fun e => by injection e with e; omega)
            have hb4 := HI6.out.bel.grown hg7 HI6.out.bel.size (fun k hk => by injection hk with hk; omega)
            clear HRE HWR HGO HI6 hg7
            go_wp2
            refine leaves_cons (f := 66) (args := #[.pointer (some ⟨w.heap.size + 1, 0, none⟩), .pointer (some ⟨w.heap.size + 1 + 1, 0, none⟩)]) (by simp) (by simp [go_sem]) ?_
            refine (rules1_fault (posL s (nxL (nxL l'))) (w.heap.size + 1) (w.heap.size + 1 + 1) w7 _ _ _ _ d2 d3 (by omega)).mono ?_
            rintro e u' w8 ⟨rfl, rfl, hw8⟩
            have c1 : Blk w8 w.heap.size 39 #[.slice V acc.length cv] := by
              rw [hw8]
              exact (((d1).far (show w.heap.size ≠ w.heap.size + 1 by omega) _).far (show w.heap.size ≠ w.heap.size + 1 + 1 by omega) _).alloc _
            have c2 : Blk w8 (w.heap.size + 1) 3 #[.int .i64 ((posL s (nxL (nxL l'))) : Int)] := by
              rw [hw8]
              exact (((d2).set_ 0 _).far (show w.heap.size + 1 ≠ w.heap.size + 1 + 1 by omega) _).alloc _
            have c3 : Blk w8 (w.heap.size + 1 + 1) 28 #[.int .i64 4] := by
              rw [hw8]
              exact (((d3).far (show w.heap.size + 1 + 1 ≠ w.heap.size + 1 by omega) _).set_ 0 _).alloc _
            have c4 : Below w.heap.size w w8 := by
              rw [hw8]
              exact (((hb4).setCell (show w.heap.size ≤ w.heap.size + 1 by omega) _).setCell (show w.heap.size ≤ w.heap.size + 1 + 1 by omega) _).alloc (by have := (d1).lt; simp [World.setCell]; omega) _
            clear hw8
            have q0 := c1.cell 0
            have q7 := c2.cell 0
            have q8 := c3.cell 0
            clear c1 c2 c3
            simp [Leaves, settle, results, Tryd.results32, go_sem, q0, q7, q8]
            exact HQ.out.2 _ _ _ _ _ HW.out c4
          · have hr7' : RdAt s true (w.heap.size + 1 + 1 + 1) (nxL (nxL l')) w7 := hr7
            have HI7 := Lib.hid (HI6.out.went hg7 hr7' hnx2)
            have hjn := HJN.out
            rw [if_neg (by intro h; have := h.symm.trans hgood; cases this)] at hjn
            clear HJN hg7 hr7 hr7' HI6 hgood HGO
            generalize nxL (nxL l') = l2 at HI7 hjn hnx2
            cases hx : rdJ true n' .alt l2 with
            | none => rw [hx] at hjn; cases hjn
            | some R1 =>
              rw [hx] at hjn
              have HAL := Lib.hid (fun (W : World) (hW : RdAt s true (w.heap.size + 1 + 1 + 1) l2 W) => (does_all s hs true (w.heap.size + 1 + 1 + 1) n').alt l2 R1 W hW hx)
              have HLT : Hid (∀ b l3, R1 = .ok b l3 → l3.length + 1 ≤ l2.length) := by
                obtain ⟨R', h1, h2⟩ := rd_ends true .alt l2
                obtain rfl := h1.uniq ⟨n', hx⟩
                exact h2
              clear hx
              cases R1 with
              | no l3 =>
                have HRE : Hid (R = .no l3) := (Option.some.inj hjn).symm
                have HW : Hid (WholeG s.data.toList (.no l3)) := by
                  show WholeG _ _
                  rw [← HRE.out]
                  exact HWR.out
                have g0 := HI7.out.gbx.cell 0
                clear hjn HRE HWR HLT
                go_upto_region 8 with fail
                have HX : Hid (∀ W', w7.drew.grownBy W' (some (w.heap.size + 1 + 1 + 1)) → Below w.heap.size w W' ∧ Blk W' w.heap.size 39 #[.slice V acc.length cv] ∧ Blk W' (w.heap.size + 1) 3 #[.int .i64 0] ∧ Blk W' (w.heap.size + 1 + 1) 28 #[.int .i64 0]) := fun W' hg =>
                  have hI := HI7.out.below (Below.refl _ _).drew
                  ⟨hI.bel.grown hg hI.bel.size (fun k hk => by injection hk with hk; omega), hI.gbx.grown hg (fun e => by injection e with e; omega), hI.abx.grown hg (fun e => by injection e with e; omega), hI.xbx.grown hg (fun e => by injection e with e; omega)⟩
                refine wp_region_p (m := 25) (X := fun ch W' => ch = [{ v := faultV (posL s l3), recovered := false }] ∧ Below w.heap.size w W' ∧ Blk W' w.heap.size 39 #[.slice V acc.length cv] ∧ Blk W' (w.heap.size + 1) 3 #[.int .i64 0] ∧ Blk W' (w.heap.size + 1 + 1) 28 #[.int .i64 0]) (fun W => Blk W w.heap.size 39 #[.slice V acc.length cv]) (· == 9) (by kernel_rfl) ?_ (by kernel_rfl) ⟨rfl, fun _ _ => rfl⟩ ?_
                · rintro ch W' ⟨tm, df⟩ ⟨rfl, hb4, d1, d2, d3⟩ ⟨hdf, htm⟩
                  have t2 := htm 2 (by omega)
                  have t3 := htm 3 (by omega)
                  have t4 := htm 4 (by omega)
                  simp only at hdf t2 t3 t4
                  subst hdf
                  clear htm HX HI7 HAL g0
                  simp only [Exit.then, Exit.inBlock]
                  refine leaves_cons (f := 66) (args := #[.pointer (some ⟨w.heap.size + 1, 0, none⟩), .pointer (some ⟨w.heap.size + 1 + 1, 0, none⟩)]) (by simp) (by simp [go_sem]) ?_
                  refine (rules1_fault (posL s l3) (w.heap.size + 1) (w.heap.size + 1 + 1) W' _ _ _ _ d2 d3 (by omega)).mono ?_
                  rintro e u' w8 ⟨rfl, rfl, hw8⟩
                  have c1 : Blk w8 w.heap.size 39 #[.slice V acc.length cv] := by
                    rw [hw8]
                    exact (((d1).far (show w.heap.size ≠ w.heap.size + 1 by omega) _).far (show w.heap.size ≠ w.heap.size + 1 + 1 by omega) _).alloc _
                  have c2 : Blk w8 (w.heap.size + 1) 3 #[.int .i64 ((posL s l3) : Int)] := by
                    rw [hw8]
                    exact (((d2).set_ 0 _).far (show w.heap.size + 1 ≠ w.heap.size + 1 + 1 by omega) _).alloc _
                  have c3 : Blk w8 (w.heap.size + 1 + 1) 28 #[.int .i64 4] := by
                    rw [hw8]
                    exact (((d3).far (show w.heap.size + 1 + 1 ≠ w.heap.size + 1 by omega) _).set_ 0 _).alloc _
                  have c4 : Below w.heap.size w w8 := by
                    rw [hw8]
                    exact (((hb4).setCell (show w.heap.size ≤ w.heap.size + 1 by omega) _).setCell (show w.heap.size ≤ w.heap.size + 1 + 1 by omega) _).alloc (by have := (d1).lt; simp [World.setCell]; omega) _
                  clear hw8
                  have q0 := c1.cell 0
                  have q7 := c2.cell 0
                  have q8 := c3.cell 0
                  clear c1 c2 c3
                  simp [Leaves, settle, results, Tryd.results32, go_sem, t2, t3, t4, q0, q7, q8]
                  exact HQ.out.2 _ _ _ _ _ HW.out c4
                · have hC : Blk w7.drew w.heap.size 39 #[.slice V acc.length cv] := HI7.out.gbx.drew
                  have hrd := HI7.out.rd.below (Below.refl _ _).drew
                  have HP := Lib.hid (HAL.out _ hrd)
                  clear hrd HAL HI7
                  generalize w7.drew = wd at hC HP HX ⊢
                  apply LP.rd (i := 0) rfl (by kernel_rfl) hC rfl
                  · intro W hW
                    skip
                    unfold readW
                    go_simp
                    first | rfl | exact ⟨rfl, rfl⟩
                  first | simp only [Act.put, List.setIfInBounds_toArray, List.set_cons_succ, List.set_cons_zero] | skip
                  apply LP.rd (i := 1) rfl (by kernel_rfl) hC rfl
                  · intro W hW
                    have n0 := hW.cell 0
                    unfold readW
                    go_simp
                    first | rfl | exact ⟨rfl, rfl⟩
                  first | simp only [Act.put, List.setIfInBounds_toArray, List.set_cons_succ, List.set_cons_zero] | skip
                  apply LP.rd (i := 2) rfl (by kernel_rfl) hC rfl
                  · intro W hW
                    skip
                    unfold readW
                    go_simp
                    first | rfl | exact ⟨rfl, rfl⟩
                  first | simp only [Act.put, List.setIfInBounds_toArray, List.set_cons_succ, List.set_cons_zero] | skip
                  apply LP.rd (i := 3) rfl (by kernel_rfl) hC rfl
                  · intro W hW
                    skip
                    unfold readW
                    go_simp
                    first | rfl | exact ⟨rfl, rfl⟩
                  first | simp only [Act.put, List.setIfInBounds_toArray, List.set_cons_succ, List.set_cons_zero] | skip
                  apply LP.one (i := 4) rfl (by kernel_rfl) rfl
                  unfold stepP
                  go_simp
                  go_at_call 63
                  refine HP.out.mono ?_
                  rintro e w8 ⟨hg8, rfl⟩
                  exact .inr ⟨_, rfl, rfl, HX.out _ hg8⟩
              | ok b l3 =>
                have hjn2 : (if (tokL l3).isFin = true then some (Gs.ok (acc ++ [(nm, b)])) else grJ n' (acc ++ [(nm, b)]) l3) = some R := hjn
                have HJN := Lib.hid hjn2
                have hl3 := HLT.out b l3 rfl
                have g0 := HI7.out.gbx.cell 0
                clear hjn hjn2 HLT
                go_upto_region 8 with fail
                refine wp_region_l (fun W => Blk W w.heap.size 39 #[.slice V acc.length cv]) (· == 9) (by kernel_rfl) ?_
                have hC : Blk w7.drew w.heap.size 39 #[.slice V acc.length cv] := HI7.out.gbx.drew
                have HI8 := Lib.hid (HI7.out.below (Below.refl _ _).drew)
                have HP := Lib.hid (HAL.out _ HI8.out.rd)
                have hlo8 : w.heap.size + 1 + 1 + 1 + 1 ≤ w7.drew.heap.size := HI8.out.rd.blk.lt
                have hold8 : ∀ q, (Value.slice V acc.length cv).ownBlock = some q → q < w7.drew.heap.size := HI8.out.rus.old
                have HOLD := Lib.hid hold8
                clear HAL HI7 hold8 g0
                generalize w7.drew = wd at hC HP HI8 hlo8 HOLD ⊢
                apply L.rd (i := 0) rfl (by kernel_rfl) hC rfl
                · intro W hW
                  skip
                  unfold readW
                  go_simp
                  first | rfl | exact ⟨rfl, rfl⟩
                first | simp only [Act.put, List.setIfInBounds_toArray, List.set_cons_succ, List.set_cons_zero] | skip
                apply L.rd (i := 1) rfl (by kernel_rfl) hC rfl
                · intro W hW
                  have n0 := hW.cell 0
                  unfold readW
                  go_simp
                  first | rfl | exact ⟨rfl, rfl⟩
                first | simp only [Act.put, List.setIfInBounds_toArray, List.set_cons_succ, List.set_cons_zero] | skip
                apply L.rd (i := 2) rfl (by kernel_rfl) hC rfl
                · intro W hW
                  skip
                  unfold readW
                  go_simp
                  first | rfl | exact ⟨rfl, rfl⟩
                first | simp only [Act.put, List.setIfInBounds_toArray, List.set_cons_succ, List.set_cons_zero] | skip
                apply L.rd (i := 3) rfl (by kernel_rfl) hC rfl
                · intro W hW
                  skip
                  unfold readW
                  go_simp
                  first | rfl | exact ⟨rfl, rfl⟩
                first | simp only [Act.put, List.setIfInBounds_toArray, List.set_cons_succ, List.set_cons_zero] | skip
                apply L.one (i := 4) rfl (by kernel_rfl) rfl
                unfold stepT
                go_simp
                go_at_call 63
                refine HP.out.mono ?_
                rintro e w8 ⟨hg8, ⟨cs, rfl, hE⟩, hr8⟩
                have HI9 := Lib.hid (HI8.out.went hg8 hr8 (by omega))
                have hone := ex_one' hE.is
                obtain ⟨k1, a1, b1, c1, d1, t1, A1, n1, cp1, rfl⟩ := Ex.parts _ hE.is
                have hfew := HI8.out.few
                have hs8 := hg8.size
                clear HP HI8 hg8 hr8
                refine ⟨_, rfl, HI9.out.gbx, ?_⟩
                have hC := HI9.out.gbx
                first | simp only [Act.put, List.setIfInBounds_toArray, List.set_cons_succ, List.set_cons_zero] | skip
                apply L.rd (i := 5) rfl (by kernel_rfl) hC rfl
                · intro W hW
                  skip
                  unfold readW
                  go_simp
                  first | rfl | exact ⟨rfl, rfl⟩
                first | simp only [Act.put, List.setIfInBounds_toArray, List.set_cons_succ, List.set_cons_zero] | skip
                apply L.one (i := 6) rfl (by kernel_rfl) rfl
                unfold stepT
                go_simp
                have hE1 := hE.allocR (.cells #[.string nm, .int .i64 k1, .int .u64 a1, .int .u64 b1, .int .u64 c1, .int .u64 d1, .string t1, .slice A1 n1 cp1] 71)
                have hkb : Blk (w8.alloc (.cells #[.string nm, .int .i64 k1, .int .u64 a1, .int .u64 b1, .int .u64 c1, .int .u64 d1, .string t1, .slice A1 n1 cp1] 71)) w8.heap.size 71 #[.string nm, .int .i64 k1, .int .u64 a1, .int .u64 b1, .int .u64 c1, .int .u64 d1, .string t1, .slice A1 n1 cp1] := blk_at rfl
                have hI10 := HI9.out.below ((Below.refl _ _).alloc (Nat.le_refl _) (.cells #[.string nm, .int .i64 k1, .int .u64 a1, .int .u64 b1, .int .u64 c1, .int .u64 d1, .string t1, .slice A1 n1 cp1] 71))
                have hb10 : w.heap.size + 1 + 1 + 1 + 1 ≤ (w8.alloc (.cells #[.string nm, .int .i64 k1, .int .u64 a1, .int .u64 b1, .int .u64 c1, .int .u64 d1, .string t1, .slice A1 n1 cp1] 71)).heap.size := by simp; omega
                generalize (w8.alloc (.cells #[.string nm, .int .i64 k1, .int .u64 a1, .int .u64 b1, .int .u64 c1, .int .u64 d1, .string t1, .slice A1 n1 cp1] 71)) = wk at hE1 hkb hI10 hb10 ⊢
                generalize w8.heap.size = kb at hkb ⊢
                have hal : acc.length ≤ 100000 := by omega
                have hf3 : acc.length + 1 + l3.length ≤ s.size + 1 := by omega
                clear hC hE HI9 hs8
                have hC := hI10.gbx
                refine ⟨hC, ?_⟩
                first | simp only [Act.put, List.setIfInBounds_toArray, List.set_cons_succ, List.set_cons_zero] | skip
                apply L.one (i := 7) rfl (by kernel_rfl) rfl
                refine stepT_append_at (.tmp 26) (.tmp 31) 37 rfl (w.heap.size + 1 + 1 + 1 + 1) 71 i0 _ 8 96 Tryd.underlying37 hi0 hz0 hz1 hz2 rfl (by decide) (.slice V acc.length cv) acc.length (ruF acc rows 0) (by simp [Act.eval]) hI10.rus.own ⟨kb, 0, none⟩ 1 1 [.string nm, .int .i64 k1, .int .u64 a1, .int .u64 b1, .int .u64 c1, .int .u64 d1, .string t1, .slice A1 n1 cp1] (by simp [Act.eval]) rfl (fun i u hu => by rw [cell_add]; exact (hkb.cell i).trans (by rw [List.getElem?_toArray]; exact hu)) (fun u hu => by
                  rcases List.mem_cons.1 hu with rfl | hu
                  · rfl
                  · exact hone u hu) (by unfold maxLen; omega) (by omega) hb10 ?_
                intro v' w9 hown hgr hat
                obtain ⟨V3, c3, rfl⟩ := own_form hown
                have hI11 := hI10.push (r := (nm, b)) hlo8 HOLD.out HNS.out hE1 hown hgr hat hf3
                have hC9 := hC.grown hgr (hI10.ne (by omega))
                clear hC
                have hC := hC9
                refine ⟨fun _ => hC, ?_⟩
                first | simp only [Act.put, List.setIfInBounds_toArray, List.set_cons_succ, List.set_cons_zero] | skip
                apply L.rd (i := 8) rfl (by kernel_rfl) hC rfl
                · intro W hW
                  skip
                  unfold readW
                  go_simp
                  first | rfl | exact ⟨rfl, rfl⟩
                first | simp only [Act.put, List.setIfInBounds_toArray, List.set_cons_succ, List.set_cons_zero] | skip
                have n0 := hC.cell 0
                have f0 := hC.frozen 0
                apply L.one (i := 9) rfl (by kernel_rfl) rfl
                unfold stepT
                go_simp
                refine L.done (by kernel_rfl) ?_
                have HI11 := Lib.hid hI11
                clear hC hC9 n0 f0 hown hgr hat hkb hE1 hI10 hI11 hone hb10 HOLD hlo8 hal hf3 hfew hnx1 hnx2 hl3
                have HL1 : Hid ((acc ++ [(nm, b)]).length = acc.length + 1) := by
                  show _ = _
                  simp
                generalize (acc ++ [(nm, b)]) = acc2 at HJN HI11 HL1
                generalize acc.length + 1 = n2 at HL1 HI11 ⊢
                generalize (w9.setCell ⟨w.heap.size, 0, none⟩ (.slice V3 n2 c3)) = w10 at HI11 ⊢
                have HOV := Lib.hid (over_any s true (w.heap.size + 1 + 1 + 1) l3 w10 HI11.out.rd)
                cases hfin : (tokL l3).isFin with
                | true =>
                  have HRE : Hid (R = .ok acc2) := by
                    have := HJN.out
                    rw [if_pos hfin] at this
                    exact (Option.some.inj this).symm
                  have HW : Hid (WholeG s.data.toList (.ok acc2)) := by
                    show WholeG _ _
                    rw [← HRE.out]
                    exact HWR.out
                  rw [hfin] at HOV
                  have x1 : Blk w10 w.heap.size 39 #[.slice V3 n2 c3] := by
                    have := HI11.out.gbx
                    rw [HL1.out] at this
                    exact this
                  have x2 := HI11.out.abx
                  have x3 := HI11.out.xbx
                  have y0 := x1.cell 0
                  have f0 := x1.frozen 0
                  have y7 := x2.cell 0
                  have f7 := x2.frozen 0
                  have y8 := x3.cell 0
                  have f8 := x3.frozen 0
                  have g1 : Blk ((w10.setCell ⟨w.heap.size, 0, none⟩ (.slice V3 n2 c3)).setCell ⟨w.heap.size + 1, 0, none⟩ (.int .i64 0)) w.heap.size 39 #[.slice V3 n2 c3] := (x1.set_ 0 (.slice V3 n2 c3)).far (p := ⟨w.heap.size + 1, 0, none⟩) (show w.heap.size ≠ w.heap.size + 1 by omega) (.int .i64 0)
                  have k1' := g1.far (p := ⟨w.heap.size + 1 + 1, 0, none⟩) (show w.heap.size ≠ w.heap.size + 1 + 1 by omega) (.int .i64 0)
                  have k2 : Blk (((w10.setCell ⟨w.heap.size, 0, none⟩ (.slice V3 n2 c3)).setCell ⟨w.heap.size + 1, 0, none⟩ (.int .i64 0)).setCell ⟨w.heap.size + 1 + 1, 0, none⟩ (.int .i64 0)) (w.heap.size + 1) 3 #[.int .i64 0] := ((x2.far (p := ⟨w.heap.size, 0, none⟩) (show w.heap.size + 1 ≠ w.heap.size by omega) (.slice V3 n2 c3)).set_ 0 (.int .i64 0)).far (p := ⟨w.heap.size + 1 + 1, 0, none⟩) (show w.heap.size + 1 ≠ w.heap.size + 1 + 1 by omega) (.int .i64 0)
                  have k3 : Blk (((w10.setCell ⟨w.heap.size, 0, none⟩ (.slice V3 n2 c3)).setCell ⟨w.heap.size + 1, 0, none⟩ (.int .i64 0)).setCell ⟨w.heap.size + 1 + 1, 0, none⟩ (.int .i64 0)) (w.heap.size + 1 + 1) 28 #[.int .i64 0] := ((x3.far (p := ⟨w.heap.size, 0, none⟩) (show w.heap.size + 1 + 1 ≠ w.heap.size by omega) (.slice V3 n2 c3)).far (p := ⟨w.heap.size + 1, 0, none⟩) (show w.heap.size + 1 + 1 ≠ w.heap.size + 1 by omega) (.int .i64 0)).set_ 0 (.int .i64 0)
                  have k4 := ((HI11.out.bel.setCell (p := ⟨w.heap.size, 0, none⟩) (Nat.le_refl w.heap.size) (.slice V3 n2 c3)).setCell (p := ⟨w.heap.size + 1, 0, none⟩) (show w.heap.size ≤ w.heap.size + 1 by omega) (.int .i64 0)).setCell (p := ⟨w.heap.size + 1 + 1, 0, none⟩) (show w.heap.size ≤ w.heap.size + 1 + 1 by omega) (.int .i64 0)
                  have k5 := ((HI11.out.rus.far (k := w.heap.size) (by omega) 0 (.slice V3 n2 c3)).far (k := w.heap.size + 1) (by omega) 0 (.int .i64 0)).far (k := w.heap.size + 1 + 1) (by omega) 0 (.int .i64 0)
                  have HK := Lib.hid (And.intro k1' (And.intro k2 (And.intro k3 (And.intro k4 k5))))
                  clear g1 k1' k2 k3 k4 k5 x1 x2 x3 HI11 HRE HJN HWR hfin HNS
                  go_wp2_with fail
                  refine HOV.out.mono ?_
                  rintro e w11 ⟨rfl, hw11⟩
                  subst w11
                  go_wp2
                  have hK := HK.out
                  clear HK y0 f0 y7 f7 y8 f8 HOV
                  generalize (((w10.setCell ⟨w.heap.size, 0, none⟩ (.slice V3 n2 c3)).setCell ⟨w.heap.size + 1, 0, none⟩ (.int .i64 0)).setCell ⟨w.heap.size + 1 + 1, 0, none⟩ (.int .i64 0)) = w12 at hK ⊢
                  obtain ⟨k1', k2, k3, k4, k5⟩ := hK
                  refine leaves_cons (f := 66) (args := #[.pointer (some ⟨w.heap.size + 1, 0, none⟩), .pointer (some ⟨w.heap.size + 1 + 1, 0, none⟩)]) (by simp) (by simp [go_sem]) ?_
                  refine (rules1_idle (w.heap.size + 1) (w.heap.size + 1 + 1) w12).mono ?_
                  rintro e u' w13 ⟨rfl, rfl, hw13⟩
                  subst w13
                  have q0 := k1'.cell 0
                  have q7 := k2.cell 0
                  have q8 := k3.cell 0
                  simp [Leaves, settle, results, Tryd.results32, go_sem, q0, q7, q8]
                  have := HQ.out.1 acc2 V3 c3 _ w12 HW.out k4 k5
                  rw [HL1.out] at this
                  exact this
                | false =>
                  rw [hfin] at HOV
                  have HJ2 : Hid (grJ n' acc2 l3 = some R) := by
                    have := HJN.out
                    rw [if_neg (by rw [hfin]; decide)] at this
                    exact this
                  clear hfin HJN HNS
                  go_wp2_with fail
                  refine HOV.out.mono ?_
                  rintro e w11 ⟨rfl, hw11⟩
                  subst w11
                  go_wp2
                  go_roundg n'
                  case rel => exact ⟨acc2, V3, c3, _, l3, HI11, by omega, HJ2.out⟩
                  case measure => omega
end Go.Proofs.YtndhbdbfjkmloaaDoor
namespace Go.Proofs.YtndhbdbfjkmloaaDoor
open Go.RowKit Go.Maps

/-- what Read leaves -/
def ReadGQ (s : ByteArray) (w : World) (r : Ending) (w' : World) : Prop :=
  Below w.heap.size w w' ∧ ∃ o p x, ReadGR s.data.toList o p x ∧ ∃ A cp rows, r = .returned (.tuple #[.agg #[.slice A (o.getD []).length cp], .int .i64 ((p : Nat) : Int), .int .i64 x]) ∧
    GrF (fun b => w.heap.size ≤ b ∧ b < w'.heap.size) w'.heap.size w' (o.getD []) A cp rows
theorem GrF.set {S : Nat → Prop} {hi k : Nat} {W : World} {g : List Rl} {V : Option Addr} {c : Nat} {rows : Nat → List Value} (h : GrF S hi W g V c rows) (hk : ¬ S k) (i : Nat) (u : Value) : GrF S hi (W.setCell ⟨k, i, none⟩ u) g V c rows :=
  h.keep fun p hp => World.cell?_setCell_other W _ p u (by rintro rfl; exact hk hp)
theorem GrF.allocR {lo : Nat} {W : World} {g : List Rl} {V : Option Addr} {c : Nat} {rows : Nat → List Value} (h : GrF (fun b => lo ≤ b ∧ b < W.heap.size) W.heap.size W g V c rows) (o : Obj) : GrF (fun b => lo ≤ b ∧ b < (W.alloc o).heap.size) (W.alloc o).heap.size (W.alloc o) g V c rows :=
  (h.keep (W' := W.alloc o) fun p hp => World.cell?_alloc_lt W o p hp.2).mono (fun b hb => ⟨hb.1, by simp; omega⟩) (by simp)
set_option maxRecDepth 100000 in
set_option maxHeartbeats 4000000 in
theorem readg_any (s : ByteArray) (w : World) : Calls Tryd.prog 16 #[.string s] w (ReadGQ s w) := by
  have hl := size_list s
  have HQN : Hid (∀ (p : Nat) (x : Int) (W' : World), ReadGR s.data.toList none p x → Below w.heap.size w W' → ReadGQ s w (.returned (.tuple #[.agg #[.slice none 0 0], .int .i64 (p : Int), .int .i64 x])) W') :=
    fun p x W' h1 h2 => ⟨h2, none, p, x, h1, none, 0, _, rfl, GrF.nil _ _ _⟩
  have HQS : Hid (∀ (g : List Rl) (A : Option Addr) (cp : Nat) (rows : Nat → List Value) (W' : World), ReadGR s.data.toList (some g) 0 0 → Below w.heap.size w W' → GrF (fun b => w.heap.size ≤ b ∧ b < W'.heap.size) W'.heap.size W' g A cp rows →
      ReadGQ s w (.returned (.tuple #[.agg #[.slice A g.length cp], .int .i64 0, .int .i64 0])) W') :=
    fun g A cp rows W' h1 h2 h3 => ⟨h2, some g, 0, 0, h1, A, cp, rows, rfl, h3⟩
  generalize ReadGQ s w = Q at HQN HQS ⊢
  have hz1 : (w.alloc (.cells #[.slice none 0 0] 39)).heap.size = w.heap.size + 1 := by simp
  have hbx : Blk (w.alloc (.cells #[.slice none 0 0] 39)) w.heap.size 39 #[.slice none 0 0] := blk_at rfl
  have hb0 : Below w.heap.size w (w.alloc (.cells #[.slice none 0 0] 39)) := (by repeat (first | exact Below.refl _ _ | assumption | refine Below.drew ?_ | refine below_drewN ?_ _ | refine Below.alloc ?_ (by first | omega | (simp; omega) | simp) _ | refine Below.setCell ?_ (by first | omega | (simp; omega) | simp) _))
  by_cases hs : s.size ≤ 2000
  · have HW := Lib.hid (fun W => rules_any s (by omega) W)
    have HS := Lib.hid (show s.data.toList.length ≤ 2000 by rw [hl]; exact hs)
    have hlen := Lib.hid hl
    clear hl
    go_enter Tryd.func16, Tryd.ntmps16
    go_wp2_with fail
    refine (HW.out _).mono ?_
    generalize (w.alloc (.cells #[.slice none 0 0] 39)) = wa at hz1 hbx hb0 ⊢
    rintro e w1 ⟨hb1, R, hwh, ⟨g, A, cp, rows, rfl, rfl, hE⟩ | ⟨l, A, n, cp, rfl, rfl⟩⟩
    · have hb2 := hb0.trans (hb1.mono (by omega))
      have hbx1 := hbx.below hb1 (by omega)
      rw [hz1] at hE
      have hE1 := hE.gr.mono (S' := fun b => w.heap.size + 1 ≤ b ∧ b < w1.heap.size) (fun b hb => ⟨by omega, hb.2⟩) (Nat.le_refl _)
      have hE2 := hE1.allocR (.cells #[.slice A g.length cp] 39)
      have hbx2 := hbx1.alloc (.cells #[.slice A g.length cp] 39)
      have hb3 := hb2.alloc hb2.size (.cells #[.slice A g.length cp] 39)
      have hx2 := Blk.new w1 39 #[.slice A g.length cp]
      have hs1 := hb1.size
      rw [hz1] at hs1
      have HWH := Lib.hid hwh
      clear hE hE1 hbx1 hbx hb2 hb1 hb0 hz1 hwh
      go_upto_region 6 with fail
      generalize (w1.alloc (.cells #[.slice A g.length cp] 39)) = w2 at hE2 hbx2 hb3 hx2 ⊢
      generalize w1.heap.size = xb at hx2 hs1 ⊢
      have y0 := hx2.cell 0
      have hck := gcheck_any hE2.is
      have HCK := Lib.hid hck
      clear hck
      by_cases h0 : checkG g = 0
      · rw [h0] at HCK
        have HP : Hid (ReadGR s.data.toList (some g) 0 0) := .ok _ HS.out HWH.out h0
        clear h0 HWH
        have HEX := Lib.hid hE2
        clear hE2
        go_wp2_with fail
        refine HCK.out.mono ?_
        rintro e w3 ⟨rfl, hb4⟩
        have hx3 := hx2.below hb4 hx2.lt
        have hbx3 := hbx2.below hb4 hbx2.lt
        have hb5 := hb3.trans (hb4.mono hb3.size)
        have HE3 : Hid (GrF (fun b => w.heap.size + 1 ≤ b ∧ b < w3.heap.size) w3.heap.size w3 g A cp rows) := (HEX.out.keep (W' := w3) fun p hp => hb4.cell hp.2).mono (fun b hb => ⟨hb.1, Nat.lt_of_lt_of_le hb.2 hb4.size⟩) hb4.size
        clear hx2 hbx2 hb3 hb4 y0 HEX HCK
        have y0 := hx3.cell 0
        have x0 := hbx3.cell 0
        have f0 := hbx3.frozen 0
        have hob := hbx3.lt
        have hb6 := hb5.setCell (p := ⟨w.heap.size, 0, none⟩) (Nat.le_refl w.heap.size) (.slice A g.length cp)
        have hx6 : Blk (w3.setCell ⟨w.heap.size, 0, none⟩ (.slice A g.length cp)) w.heap.size 39 #[.slice A g.length cp] := hbx3.set_ 0 _
        have hE6 := HE3.out.set (k := w.heap.size) (fun hb => by omega) 0 (.slice A g.length cp)
        have hz6 : (w3.setCell ⟨w.heap.size, 0, none⟩ (.slice A g.length cp)).heap.size = w3.heap.size := by simp [World.setCell]
        rw [← hz6] at hE6
        have hE7 := hE6.mono (S' := fun b => w.heap.size ≤ b ∧ b < (w3.setCell ⟨w.heap.size, 0, none⟩ (.slice A g.length cp)).heap.size) (fun b hb => ⟨by omega, hb.2⟩) (Nat.le_refl _)
        have HK := Lib.hid (And.intro hb6 (And.intro hx6 hE7))
        clear hb6 hx6 hE6 hE7 hz6 hb5 HE3 hbx3 hx3
        go_wp2
        have hK := HK.out
        clear HK
        generalize (w3.setCell ⟨w.heap.size, 0, none⟩ (.slice A g.length cp)) = w4 at hK ⊢
        obtain ⟨hb6, hx6, hE7⟩ := hK
        have ze0 := hx6.cell 0
        exact bodyPost_ret (v := .tuple #[.agg #[.slice A g.length cp], .int .i64 0, .int .i64 0]) (by simp [results, Tryd.results16, go_sem, ze0]) rfl (HQS.out _ _ _ _ _ HP.out hb6 hE7)
      · have HP : Hid (ReadGR s.data.toList none 0 (checkG g)) := .bad _ HS.out HWH.out h0
        have hne : (checkG g != 0) = true := by rw [bne_iff_ne]; exact h0
        clear h0 HWH hE2
        generalize checkG g = cx at HP HCK hne
        go_wp2_with fail
        refine HCK.out.mono ?_
        rintro e w3 ⟨rfl, hb4⟩
        have hbx3 := hbx2.below hb4 hbx2.lt
        have hb5 := hb3.trans (hb4.mono hb3.size)
        clear hx2 hbx2 hb3 hb4 y0 HCK
        have x0 := hbx3.cell 0
        have f0 := hbx3.frozen 0
        have hob := hbx3.lt
        have hb6 := hb5.setCell (p := ⟨w.heap.size, 0, none⟩) (Nat.le_refl w.heap.size) (.slice none 0 0)
        have hx6 : Blk (w3.setCell ⟨w.heap.size, 0, none⟩ (.slice none 0 0)) w.heap.size 39 #[.slice none 0 0] := hbx3.set_ 0 _
        have HK := Lib.hid (And.intro hb6 hx6)
        clear hb6 hx6 hb5 hbx3
        go_wp2
        have ze0 := HK.out.2.cell 0
        exact bodyPost_ret (v := .tuple #[.agg #[.slice none 0 0], .int .i64 0, .int .i64 cx]) (by simp [results, Tryd.results16, go_sem, ze0]) rfl (HQN.out 0 cx _ HP.out HK.out.1)
    · have HP : Hid (ReadGR s.data.toList none (posL s l) 4) := by
        have := ReadGR.syn l HS.out hwh
        rw [hlen.out] at this
        exact this
      have hb2 := hb0.trans (hb1.mono (by omega))
      have hbx1 := hbx.below hb1 (by omega)
      have hbx2 := hbx1.alloc (.cells #[.slice A n cp] 39)
      have hb3 := hb2.alloc hb2.size (.cells #[.slice A n cp] 39)
      clear hbx hbx1 hb0 hb1 hb2 hwh hz1
      generalize posL s l = pl at HP ⊢
      go_upto_region 4 with fail
      generalize (w1.alloc (.cells #[.slice A n cp] 39)) = w2 at hbx2 hb3 ⊢
      have hob := hbx2.lt
      have x0 := hbx2.cell 0
      have f0 := hbx2.frozen 0
      have hb6 := hb3.setCell (p := ⟨w.heap.size, 0, none⟩) (Nat.le_refl w.heap.size) (.slice none 0 0)
      have hx6 : Blk (w2.setCell ⟨w.heap.size, 0, none⟩ (.slice none 0 0)) w.heap.size 39 #[.slice none 0 0] := hbx2.set_ 0 _
      have HK := Lib.hid (And.intro hb6 hx6)
      clear hb6 hx6 hb3 hbx2
      go_wp2
      have ze0 := HK.out.2.cell 0
      exact bodyPost_ret (v := .tuple #[.agg #[.slice none 0 0], .int .i64 (pl : Int), .int .i64 4]) (by simp [results, Tryd.results16, go_sem, ze0]) rfl (HQN.out pl 4 _ HP.out HK.out.1)
  · have HP : Hid (ReadGR s.data.toList none 0 2) := .large (by rw [hl]; omega)
    have hgt : (2000 : Int) < (s.size : Int) := by omega
    clear hl hs
    go_enter Tryd.func16, Tryd.ntmps16
    go_upto_region 1 with fail
    generalize (w.alloc (.cells #[.slice none 0 0] 39)) = wa at hz1 hbx hb0 ⊢
    have hob := hbx.lt
    have x0 := hbx.cell 0
    have f0 := hbx.frozen 0
    have hb6 := hb0.setCell (p := ⟨w.heap.size, 0, none⟩) (Nat.le_refl w.heap.size) (.slice none 0 0)
    have hx6 : Blk (wa.setCell ⟨w.heap.size, 0, none⟩ (.slice none 0 0)) w.heap.size 39 #[.slice none 0 0] := hbx.set_ 0 _
    have HK := Lib.hid (And.intro hb6 hx6)
    clear hb6 hx6 hb0 hz1 hbx
    go_wp2
    have ze0 := HK.out.2.cell 0
    exact bodyPost_ret (v := .tuple #[.agg #[.slice none 0 0], .int .i64 0, .int .i64 2]) (by simp [results, Tryd.results16, go_sem, ze0]) rfl (HQN.out 0 2 _ HP.out HK.out.1)
end Go.Proofs.YtndhbdbfjkmloaaDoor
