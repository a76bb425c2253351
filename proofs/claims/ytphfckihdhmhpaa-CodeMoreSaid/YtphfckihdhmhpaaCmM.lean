/- The machine of package code in memory: push, pop, fail. -/
import Derived.Test.YtphfckihdhmhpaaCmC
import Derived.Laws.OwnMore
import Derived.Deep.RegionLawGrows
import Derived.Deep.DeepCutAuto
import Derived.Lib.SmallJoins
import Derived.Lib.OwnKind
namespace Go.Proofs.Ytphfckihdhmhpaa
open Go.RowKit

/-- append to a row of one's own, as one step of a region that draws -/
theorem step_append_row {P : Program} {ops : Array Oper} {o : Oper} {a : Act} {w : World} {K : Act → World → Prop} {Q : Exit → Act → World → Prop} {E : Prop}
    (hg : o.guard = none) (s x : Operand) (t : TypeId) (hop : o.op = Op.call { callee := Callee.builtin Builtin.append, args := #[s, x], argTypes := #[t, t] })
    (base : Nat) (e : TypeId) (i : TypeInfo) (z : Value) (size bytes : Nat) (h1 : P.underlying t = some (.slice e)) (h2 : P.info? e = some i) (h3 : i.zero = some z) (h4 : i.size = size) (h5 : i.bytes = bytes) (h6 : z.cells.size = size) (h7 : 0 < size)
    (v : Value) (n : Nat) (xs : List Value) (hs : a.eval s = v) (hown : w.ownsRow base e size v n xs)
    (ad : Addr) (m c : Nat) (news : List Value) (hx : a.eval x = .slice (some ad) m c) (hn : news.length = m * size) (hc : ∀ j u, news[j]? = some u → w.cell? (ad.add j) = some u) (h1c : ∀ u ∈ news, u.oneCell' = true)
    (b1 : n + m ≤ maxLen) (b2 : (n + m) * bytes ≤ 140737488355328) (hb : base ≤ w.heap.size)
    (hK : ∀ v' w', w'.ownsRow base e size v' (n + m) (xs ++ news) → w.grownBy w' v.ownBlock → K (a.put o.dst v') w') :
    if Region.wanted o (yielded ops a.tmps) = true then Oper.wp P o a w K Q else E := by
  have hw : Region.wanted o (yielded ops a.tmps) = true := by simp [Region.wanted, hg]
  rw [if_pos hw]
  obtain ⟨v', w', hrun, r1, r2, _⟩ := run_append_own (P := P) w base t o.type e i z size bytes h1 h2 h3 h4 h5 h6 h7 v n xs hown ad m c news hn hc h1c b1 b2 hb
  unfold Oper.wp
  simp [execOp, hop, resolve, invoke, builtin, hs, hx, hrun, Result.andThen]
  exact hK v' w' r1 r2
theorem new_row (w : World) (t : TypeId) (cs : List Value) : ∀ (j : Nat) (u : Value), cs[j]? = some u → (w.alloc (.cells cs.toArray t)).cell? ((⟨w.heap.size, 0, none⟩ : Addr).add j) = some u := by
  intro j u h
  have hb : Blk (w.alloc (.cells cs.toArray t)) w.heap.size t cs.toArray := blk_at rfl
  have h1 : (⟨w.heap.size, 0, none⟩ : Addr).add j = ⟨w.heap.size, j, none⟩ := by
    cases j with
    | zero => rfl
    | succ j => simp [Addr.add]
  rw [h1, hb.cell j]
  simpa using h
theorem grown_behind {w w' : World} {o : Obj} {r : Option Nat} (h : (w.alloc o).drew.grownBy w' r) : w.grownBy w' r :=
  ⟨h.os, h.tape, h.output, Nat.le_trans (by simp) h.size, fun k hk hne => (h.block k (by simp; omega) hne).trans (Below.heap_alloc w o k hk)⟩

theorem entry_info : (Try.prog.info? 185).map (fun i => (i.zero, i.size, i.bytes)) = some (some (.agg #[.int .i64 0, .int .i64 0]), 2, 16) := by kernel_rfl
def enC (x : Nat × Int) : List Value := [.int .i64 (x.1 : Int), .int .i64 x.2]
def stkC (st : List (Nat × Int)) : List Value := st.reverse.flatMap enC
theorem stkC_cons (x : Nat × Int) (st : List (Nat × Int)) : stkC (x :: st) = stkC st ++ enC x := by
  unfold stkC
  rw [List.reverse_cons, List.flatMap_append, List.flatMap_cons, List.flatMap_nil, List.append_nil]
theorem stkC_len : ∀ st : List (Nat × Int), (stkC st).length = st.length * 2
  | [] => rfl
  | x :: st => by rw [stkC_cons, List.length_append, stkC_len st]; simp [enC]; omega
/-- the machine in memory -/
def Mach (w : World) (mb : Nat) (s : ByteArray) (m : MS) : Prop :=
  ∃ V cp, Blk w mb 135 #[.string s, .int .i64 (m.pc : Int), .int .i64 (m.at_ : Int), .slice V m.st.length cp] ∧ w.ownsRow (mb + 1) 185 2 (.slice V m.st.length cp) m.st.length (stkC m.st)
theorem own_take {w : World} {base : Nat} {e : TypeId} {size n cp : Nat} {V : Option Addr} {ys zs : List Value} (h : w.ownsRow base e size (.slice V (n + 1) cp) (n + 1) (ys ++ zs)) (hl : ys.length = n * size) : w.ownsRow base e size (.slice V n cp) n ys := by
  refine ⟨hl, ?_⟩
  rcases h.2 with ⟨e, _⟩ | ⟨g', c', cur, e, e1, e2, e3, e4, e5, e6⟩
  · cases e
  · simp only [Value.slice.injEq, true_and] at e
    obtain ⟨rfl, rfl⟩ := e
    refine .inr ⟨_, _, cur, rfl, e1, e2, by omega, e4, e5, ?_⟩
    have := congrArg (List.take (n * size)) e6
    have hns : (n + 1) * size = n * size + size := Nat.succ_mul n size
    rw [List.take_take, Nat.min_eq_left (by omega), List.take_append_of_le_length (by omega), List.take_of_length_le (l := ys) (by omega)] at this
    exact this
theorem Mach.below {w w' : World} {mb : Nat} {s : ByteArray} {m : MS} (h : Mach w mb s m) (hb : Below w.heap.size w w') : Mach w' mb s m := by
  obtain ⟨V, cp, h1, h2⟩ := h
  exact ⟨V, cp, h1.below hb h1.lt, own_below h2 hb⟩
theorem grown_field {w : World} (k i : Nat) (u : Value) : w.grownBy (w.setCell ⟨k, i, none⟩ u) (some k) :=
  ⟨rfl, rfl, rfl, by simp [World.setCell], fun q _ hne => Below.heap_setCell w ⟨k, i, none⟩ u q (by rintro rfl; exact hne rfl)⟩
theorem own_not {w : World} {base : Nat} {e : TypeId} {size : Nat} {v : Value} {n : Nat} {xs : List Value} (h : w.ownsRow base e size v n xs) {b : Nat} (hb : b < base) : v.ownBlock ≠ some b := fun e => absurd (h.lt b e).1 (by omega)
/-- pc or place set -/
theorem Mach.setPc {w : World} {mb : Nat} {s : ByteArray} {m : MS} (h : Mach w mb s m) (pc : Nat) : Mach (w.setCell ⟨mb, 1, none⟩ (.int .i64 (pc : Int))) mb s { m with pc := pc } := by
  obtain ⟨V, cp, h1, h2⟩ := h
  exact ⟨V, cp, h1.set_ 1 _, h2.kept (grown_field mb 1 _) (.inr (own_not h2 (by omega)))⟩
theorem Mach.setAt {w : World} {mb : Nat} {s : ByteArray} {m : MS} (h : Mach w mb s m) (q : Nat) : Mach (w.setCell ⟨mb, 2, none⟩ (.int .i64 (q : Int))) mb s { m with at_ := q } := by
  obtain ⟨V, cp, h1, h2⟩ := h
  exact ⟨V, cp, h1.set_ 2 _, h2.kept (grown_field mb 2 _) (.inr (own_not h2 (by omega)))⟩

/-- all blocks stand but mb and those of entries -/
def MK (mb : Nat) (w w' : World) : Prop := ∀ k T cs, k ≠ mb → T ≠ 185 → Blk w k T cs → Blk w' k T cs
/-- what push leaves -/
def PushQ (mb : Nat) (s : ByteArray) (m : MS) (x : Nat × Int) (w : World) (e : Ending) (w' : World) : Prop :=
  ((m.st.length = 10000 ∧ e = .returned (.int .i64 14) ∧ Mach w' mb s m) ∨ (m.st.length ≠ 10000 ∧ e = .returned (.int .i64 0) ∧ Mach w' mb s { m with st := x :: m.st })) ∧ Below mb w w' ∧ MK mb w w'
set_option maxHeartbeats 4000000 in
set_option maxRecDepth 100000 in
theorem push_any {w : World} {mb : Nat} {s : ByteArray} {m : MS} (h : Mach w mb s m) (hl : m.st.length ≤ 10000) (p : Nat) (a : Int) :
    Calls Try.prog 99 #[.pointer (some ⟨mb, 0, none⟩), .agg #[.int .i64 (p : Int), .int .i64 a]] w (PushQ mb s m (p, a) w) := by
  obtain ⟨pc, at_, st⟩ := m
  have HH := Lib.hid h
  obtain ⟨V, cp, hb, ho⟩ := h
  obtain ⟨i0, hi0, hz0, hz1, hz2⟩ := info_parts entry_info
  dsimp only at hb ho hl
  have HS := Lib.hid (stkC_cons (p, a) st)
  have y3 : w.cell? ⟨mb, 3, none⟩ = some (.slice V st.length cp) := hb.cell 3
  have hlt := hb.lt
  by_cases hn : st.length = 10000
  · have hq : ((st.length : Int) == 10000) = true := by rw [beq_iff_eq]; omega
    have HN := Lib.hid hn
    clear hn
    go_enter Try.func99, Try.ntmps99
    go_wp2
    go_ret
    exact ⟨.inl ⟨HN.out, rfl, HH.out.below ((Below.refl _ _).alloc (Nat.le_refl _) _)⟩, (by repeat (first | exact Below.refl _ _ | assumption | refine Below.drew ?_ | refine below_drewN ?_ _ | refine Below.alloc ?_ (by first | omega | (simp; omega) | simp) _ | refine Below.setCell ?_ (by first | omega | (simp; omega) | simp) _)), fun k T cs _ _ h => h.alloc _⟩
  · have hq : ((st.length : Int) == 10000) = false := by rw [beq_eq_false_iff_ne]; omega
    have HN := Lib.hid hn
    have hl2 : st.length < 10000 := by omega
    clear hn hl
    go_enter Try.func99, Try.ntmps99
    go_upto_region 3 with fail
    have hO1 : (w.alloc (.cells #[.int .i64 (p : Int), .int .i64 a] 185)).ownsRow (mb + 1) 185 2 (.slice V st.length cp) st.length (stkC st) := ho.alloc _
    have hB1 : Blk (w.alloc (.cells #[.int .i64 (p : Int), .int .i64 a] 185)) mb 135 #[.string s, .int .i64 (pc : Int), .int .i64 (at_ : Int), .slice V st.length cp] := hb.alloc _
    have hmk : MK mb w (w.alloc (.cells #[.int .i64 (p : Int), .int .i64 a] 185)) := fun k T cs _ _ h => h.alloc _
    have hbw : Below mb w (w.alloc (.cells #[.int .i64 (p : Int), .int .i64 a] 185)) := (by repeat (first | exact Below.refl _ _ | assumption | refine Below.drew ?_ | refine below_drewN ?_ _ | refine Below.alloc ?_ (by first | omega | (simp; omega) | simp) _ | refine Below.setCell ?_ (by first | omega | (simp; omega) | simp) _))
    have e0 : (w.alloc (.cells #[.int .i64 (p : Int), .int .i64 a] 185)).cell? ⟨w.heap.size, 0, none⟩ = some (.int .i64 (p : Int)) := (blk_at rfl : Blk _ w.heap.size _ _).cell 0
    have e1 : (w.alloc (.cells #[.int .i64 (p : Int), .int .i64 a] 185)).cell? ⟨w.heap.size, 1, none⟩ = some (.int .i64 a) := (blk_at rfl : Blk _ w.heap.size _ _).cell 1
    have hsz : w.heap.size < (w.alloc (.cells #[.int .i64 (p : Int), .int .i64 a] 185)).heap.size := by simp
    have y3 := hB1.cell 3
    have hlt1 := hB1.lt
    generalize hkb : w.heap.size = kb at e0 e1 hsz ⊢
    generalize (w.alloc (.cells #[.int .i64 (p : Int), .int .i64 a] 185)) = w1 at hO1 hB1 hbw hmk e0 e1 hsz y3 hlt1 ⊢
    have HO := Lib.hid hO1
    have HB := Lib.hid hB1
    have HW := Lib.hid hbw
    have HK := Lib.hid hmk
    clear hO1 hB1 hbw hmk ho hb hlt
    go_cut [] (fun wx => Mach wx mb s ⟨pc, at_, (p, a) :: st⟩ ∧ Below mb w wx ∧ MK mb w wx)
    case first =>
      go_region_law (refine step_append_row rfl (.tmp 15) (.tmp 17) 133 rfl (mb + 1) 185 i0 _ 2 16 Try.underlying133 hi0 hz0 hz1 hz2 rfl (by decide) (.slice V st.length cp) st.length _ (by simp [Act.eval]) (HO.out.alloc _) ⟨w1.heap.size, 0, none⟩ 1 1 [.int .i64 (p : Int), .int .i64 a] (by simp [Act.eval]) rfl (new_row _ _ _) (by simp [Value.oneCell']) (by unfold maxLen; omega) (by omega) (by simp; omega) ?_; intro v' w4 hown4 hgr4; obtain ⟨gg, cap', rfl⟩ := Joins.ownsRow_form hown4 (by omega); have hB4 := ((HB.out.alloc (.cells #[.int .i64 (p : Int), .int .i64 a] 185)).drew).grown hgr4 (fun e => own_not HO.out (by omega) e.symm); have f4 := hB4.frozen 3; have s4 := hB4.cell 3)
      all_goals
        have hG4 : w1.grownBy w4 (Value.slice V st.length cp).ownBlock := grown_behind hgr4
        have hW4 : Below mb w w4 := below_app HW.out HO.out hG4 (by omega) (by omega)
        go_wp2_with fail
        go_meet
        have hK4 : MK mb w w4 := fun k T cs hk hT h => by
          have h1 := HK.out k T cs hk hT h
          refine h1.grown hG4 fun e => hT ?_
          obtain ⟨c2, fz, hcz⟩ := Lib.ownsRow_kind HO.out k e.symm
          have h2 : w1.heap[k]? = some (.cells cs T (0, 0)) := h1
          rw [hcz] at h2
          injection h2 with h2
          injection h2 with _ h3 _
          exact h3.symm
        refine ⟨⟨_, _, hB4.set_ 3 _, ?_⟩, hW4.setCell (by simp) _, fun k T cs hk hT h => (hK4 k T cs hk hT h).far (by simpa using hk) _⟩
        rw [HS.out]
        exact hown4.kept (grown_field mb 3 _) (.inr (own_not hown4 (by omega)))
    case rest =>
    obtain ⟨hM, hbl, hmk⟩ := hcut
    have HM := Lib.hid hM
    have HBL := Lib.hid hbl
    have HMK := Lib.hid hmk
    clear hM hbl hmk
    go_wp2
    go_ret
    exact ⟨.inr ⟨HN.out, rfl, HM.out⟩, HBL.out, HMK.out⟩

theorem gone_refl (w : World) (r : Option Nat) : w.grownBy w r := ⟨rfl, rfl, rfl, Nat.le_refl _, fun _ _ _ => rfl⟩
theorem gone_alloc {w W : World} {r : Option Nat} (h : w.grownBy W r) (o : Obj) : w.grownBy (W.alloc o) r := ⟨h.os, h.tape, h.output, Nat.le_trans h.size (by simp), fun k hk hne => (Below.heap_alloc W o k (Nat.lt_of_lt_of_le hk h.size)).trans (h.block k hk hne)⟩
theorem gone_set {w W : World} {mb : Nat} (h : w.grownBy W (some mb)) (k i : Nat) (hk : k = mb ∨ w.heap.size ≤ k) (u : Value) : w.grownBy (W.setCell ⟨k, i, none⟩ u) (some mb) :=
  ⟨h.os, h.tape, h.output, by simpa [World.setCell] using h.size, fun q hq hne => (Below.heap_setCell W ⟨k, i, none⟩ u q (by rintro rfl; rcases hk with rfl | hk; exact hne rfl; omega)).trans (h.block q hq hne)⟩
theorem gone_drewN {w W : World} {r : Option Nat} (h : w.grownBy W r) (n : Nat) : w.grownBy (W.drewN n) r := ⟨h.os, h.tape, h.output, h.size, h.block⟩
theorem gone_drew {w W : World} {r : Option Nat} (h : w.grownBy W r) : w.grownBy W.drew r := ⟨h.os, h.tape, h.output, h.size, h.block⟩
theorem gone_below {w W : World} {mb : Nat} (h : w.grownBy W (some mb)) (hm : mb ≤ w.heap.size) : Below mb w W := ⟨h.os, h.tape, h.output, h.size, fun k hk => h.block k (by omega) (fun e => by injection e with e; omega)⟩

/-- what is popped -/
theorem Mach.top {w : World} {mb : Nat} {s : ByteArray} {pc at_ p : Nat} {a : Int} {st : List (Nat × Int)} (h : Mach w mb s ⟨pc, at_, (p, a) :: st⟩) :
    ∃ g cp, Blk w mb 135 #[.string s, .int .i64 (pc : Int), .int .i64 (at_ : Int), .slice (some ⟨g, 0, none⟩) (st.length + 1) cp] ∧ w.cell? ⟨g, st.length * 2, none⟩ = some (.int .i64 (p : Int)) ∧ w.cell? ⟨g, st.length * 2 + 1, none⟩ = some (.int .i64 a) ∧ mb < g ∧ g < w.heap.size ∧ st.length + 1 ≤ cp ∧ cp ≤ maxLen ∧
      ∀ W pc' at', w.grownBy W (some mb) → Blk W mb 135 #[.string s, .int .i64 ((pc' : Nat) : Int), .int .i64 ((at' : Nat) : Int), .slice (some ⟨g, 0, none⟩) st.length cp] → Mach W mb s ⟨pc', at', st⟩ := by
  obtain ⟨V, cp, hb, ho⟩ := h
  dsimp only [List.length_cons] at hb ho
  obtain ⟨g, cap, hv, hg, hlt⟩ := ho.form (by omega)
  simp only [Value.slice.injEq, true_and] at hv
  obtain ⟨rfl, rfl⟩ := hv
  have hcap : st.length + 1 ≤ cp ∧ cp ≤ maxLen := by
    rcases ho.2 with ⟨e, e2⟩ | ⟨g', c', cur, e, _, _, e1, e2, _⟩
    · cases e
    · simp only [Value.slice.injEq] at e
      rw [e.2.2]
      exact ⟨e1, e2⟩
  rw [stkC_cons] at ho
  have hl := stkC_len st
  refine ⟨g, cp, hb, ?_, ?_, by omega, hlt, hcap.1, hcap.2, fun W pc' at' hW hbW => ?_⟩
  · rw [ho.cellAt _ (by omega), List.getElem?_append_right (by omega), hl, Nat.sub_self]; rfl
  · rw [ho.cellAt _ (by omega), List.getElem?_append_right (by omega), hl, Nat.add_sub_cancel_left]; rfl
  · have h1 := own_take ho hl
    exact ⟨_, cp, hbW, h1.kept hW (.inr (own_not h1 (by omega)))⟩

/-- what pop leaves -/
def PopQ (mb : Nat) (s : ByteArray) (m : MS) (call : Bool) (w : World) (e : Ending) (w' : World) : Prop :=
  (((∀ p a r, m.st = (p, a) :: r → decide (a < 0) ≠ call) ∧ e = .returned (.tuple #[.agg #[.int .i64 0, .int .i64 0], .bool false])) ∨
      (∃ p a r, m.st = (p, a) :: r ∧ decide (a < 0) = call ∧ e = .returned (.tuple #[.agg #[.int .i64 (p : Int), .int .i64 a], .bool true]) ∧ Mach w' mb s { m with st := r })) ∧ w.grownBy w' (some mb)
set_option maxHeartbeats 4000000 in
set_option maxRecDepth 100000 in
theorem pop_any {w : World} {mb : Nat} {s : ByteArray} {m : MS} (h : Mach w mb s m) (hl : m.st.length ≤ 10000) (call : Bool) :
    Calls Try.prog 119 #[.pointer (some ⟨mb, 0, none⟩), .bool call] w (PopQ mb s m call w) := by
  obtain ⟨pc, at_, st⟩ := m
  dsimp only at hl
  have hbz : Blk (w.alloc (.cells #[.int .i64 0, .int .i64 0] 185)) w.heap.size 185 #[.int .i64 0, .int .i64 0] := blk_at rfl
  have yz0 : (w.alloc (.cells #[.int .i64 0, .int .i64 0] 185)).cell? ⟨w.heap.size, 0, none⟩ = some (.int .i64 0) := hbz.cell 0; have yz1 : (w.alloc (.cells #[.int .i64 0, .int .i64 0] 185)).cell? ⟨w.heap.size, 1, none⟩ = some (.int .i64 0) := hbz.cell 1; have yf0 := hbz.frozen 0; have yf1 := hbz.frozen 1; have ye0 : ((w.alloc (.cells #[.int .i64 0, .int .i64 0] 185)).setCell ⟨w.heap.size, 0, none⟩ (.int .i64 0)).cell? ⟨w.heap.size, 0, none⟩ = some (.int .i64 0) := (hbz.set_ 0 _).cell 0; have ye1 : (((w.alloc (.cells #[.int .i64 0, .int .i64 0] 185)).setCell ⟨w.heap.size, 0, none⟩ (.int .i64 0)).setCell ⟨w.heap.size, 1, none⟩ (.int .i64 0)).cell? ⟨w.heap.size, 1, none⟩ = some (.int .i64 0) := ((hbz.set_ 0 _).set_ 1 _).cell 1
  cases st with
  | nil =>
    have HH := Lib.hid h
    obtain ⟨V, cp, hb, ho⟩ := h
    have y3 : w.cell? ⟨mb, 3, none⟩ = some (.slice V 0 cp) := hb.cell 3
    have hlt := hb.lt
    clear hb ho hbz
    go_enter Try.func119, Try.ntmps119
    go_wp2
    exact bodyPost_ret (v := .tuple #[.agg #[.int .i64 0, .int .i64 0], .bool false]) (by simp [results, Try.results119, go_sem]) rfl ⟨.inl ⟨(fun _ _ _ e => by cases e), rfl⟩, gone_alloc (gone_refl _ _) _⟩
  | cons x r =>
    obtain ⟨p, a⟩ := x
    obtain ⟨g, cp, hb, t0, t1, hmg, hgw, hc1, hc2, hall⟩ := h.top
    have HA := Lib.hid hall
    have y3 : w.cell? ⟨mb, 3, none⟩ = some (.slice (some ⟨g, 0, none⟩) (r.length + 1) cp) := hb.cell 3
    have hlt := hb.lt
    have hsub : ((r.length + 1 : Nat) : Int) - 1 = (r.length : Int) := by omega
    simp only [List.length_cons] at hl
    clear hall h
    by_cases hc : decide (a < 0) = call
    · have HC := Lib.hid hc
      have hca : (a < 0 ∧ call = true) ∨ (¬ a < 0 ∧ call = false) := by
        by_cases h : a < 0
        · rw [decide_eq_true h] at hc; exact .inl ⟨h, hc.symm⟩
        · rw [decide_eq_false h] at hc; exact .inr ⟨h, hc.symm⟩
      clear hc
      have hf3 := hb.frozen 3
      clear ye0 ye1
      rcases hca with ⟨ha, rfl⟩ | ⟨ha, rfl⟩
      all_goals
        go_enter Try.func119, Try.ntmps119
        go_wp2
        have hG9 := gone_alloc (gone_alloc (gone_set (gone_refl w (some mb)) mb 3 (.inl rfl) (.slice (some ⟨g, 0, none⟩) r.length cp)) (.cells #[.int .i64 (p : Int), .int .i64 a] 185)) (.cells #[.int .i64 (p : Int), .int .i64 a] 185)
        exact bodyPost_ret (v := .tuple #[.agg #[.int .i64 (p : Int), .int .i64 a], .bool true]) (by simp [results, Try.results119, go_sem]) rfl ⟨.inr ⟨p, a, r, rfl, HC.out, rfl, HA.out _ pc at_ hG9 (((hb.set_ 3 _).alloc _).alloc _)⟩, hG9⟩
    · have HC := Lib.hid hc
      have hca : (a < 0 ∧ call = false) ∨ (¬ a < 0 ∧ call = true) := by
        by_cases h : a < 0
        · rw [decide_eq_true h] at hc; exact .inl ⟨h, by cases call; rfl; exact absurd rfl hc⟩
        · rw [decide_eq_false h] at hc; exact .inr ⟨h, by cases call; exact absurd rfl hc; rfl⟩
      clear hc hb hbz
      rcases hca with ⟨ha, rfl⟩ | ⟨ha, rfl⟩
      all_goals
        go_enter Try.func119, Try.ntmps119
        go_wp2
        exact bodyPost_ret (v := .tuple #[.agg #[.int .i64 0, .int .i64 0], .bool false]) (by simp [results, Try.results119, go_sem]) rfl ⟨.inl ⟨(fun p' a' r' e => by injection e with e1 e2; injection e1 with e3 e4; subst e4; exact HC.out), rfl⟩, gone_alloc (gone_refl _ _) _⟩
end Go.Proofs.Ytphfckihdhmhpaa
