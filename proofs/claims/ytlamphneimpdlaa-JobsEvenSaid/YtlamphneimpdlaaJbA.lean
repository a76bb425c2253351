/- Jobs: (*task).over; appending a list to a row of one's own, with what becomes of its block. -/
import Derived.Test.YtlamphneimpdlaaJbP
import Derived.Maps.AppendAt
namespace Go.Proofs.Ytlamphneimpdlaa
open Go.RowKit

/-- a task's cells -/
def taskC (A : Option Addr) (gn cp : Nat) (a : ByteArray) (n bud : Int) (V : Option Addr) (c : Nat) (x : Jst) : Array Value :=
  #[.slice A gn cp, .string a, .int .i64 n, .int .i64 bud, .slice V x.found.length c, .string x.cur.1, .bool x.cur.2, .int .i64 x.left]

theorem run_append_own_new {P : Program} {w : World} (base base' : Nat) (t ty e : TypeId) (i : TypeInfo) (z : Value) (size bytes : Nat) (ht : P.underlying t = some (.slice e)) (hi : P.info? e = some i) (hz : i.zero = some z)
    (hsize : i.size = size) (hby : i.bytes = bytes) (hzs : z.cells.size = size) (hsz : 0 < size) (v : Value) (n : Nat) (xs : List Value) (hown : w.ownsRow base e size v n xs)
    (V : Option Addr) (m c : Nat) (news : List Value) (hx : w.ownsRow base' e size (.slice V m c) m news) (h1 : ∀ u ∈ news, u.oneCell' = true)
    (h63 : n + m ≤ maxLen) (hbytes : (n + m) * bytes ≤ 140737488355328) (hbase : base ≤ w.heap.size) :
    ∃ v' w', (Builtin.append_ #[t, t] ty #[v, .slice V m c]).run P w = .ok v' w' ∧ w'.ownsRow base e size v' (n + m) (xs ++ news) ∧ w.grownBy w' v.ownBlock ∧ (v'.ownBlock = v.ownBlock ∨ v'.ownBlock = some w.heap.size) := by
  rcases hx.2 with ⟨h0, hm⟩ | ⟨g, cap, cur, hv, _⟩
  · injection h0 with e1 e2 e3
    subst e1 e2 e3
    have hnil : news = [] := List.eq_nil_of_length_eq_zero (by have := hx.1; simpa using this)
    subst hnil
    exact ⟨v, w, run_append_owned_none (P := P) w base t ty e i size ht hi v n xs hown, by simpa using hown, ⟨rfl, rfl, rfl, Nat.le_refl _, fun _ _ _ => rfl⟩, .inl rfl⟩
  · injection hv with e1 e2 e3
    subst e1 e3
    obtain ⟨v', w', h2, h3, h4, _, h5⟩ := run_append_own_at (P := P) (w := w) base t ty e i z size bytes ht hi hz hsize hby hzs hsz v n xs hown ⟨g, 0, none⟩ m c news hx.1 (hx.cells rfl) h1 h63 hbytes hbase
    exact ⟨v', w', h2, h3, h4, h5⟩
theorem wpList_append_own_new {P : Program} {w : World} {ops : Array Oper} {rest : List Oper} {o : Oper} {a : Act} {Q : Exit → Act → World → Prop} (hgd : o.guard = none) (s x : Operand) (t : TypeId)
    (ho : o.op = .call { callee := .builtin .append, args := #[s, x], argTypes := #[t, t] })
    (base base' : Nat) (e : TypeId) (i : TypeInfo) (z : Value) (size bytes : Nat) (ht : P.underlying t = some (.slice e)) (hi : P.info? e = some i) (hz : i.zero = some z)
    (hsize : i.size = size) (hby : i.bytes = bytes) (hzs : z.cells.size = size) (hsz : 0 < size)
    (v : Value) (n : Nat) (xs : List Value) (hs : a.eval s = v) (hown : w.ownsRow base e size v n xs)
    (V : Option Addr) (m c : Nat) (news : List Value) (hx : a.eval x = .slice V m c) (hl : w.ownsRow base' e size (.slice V m c) m news) (h1 : ∀ u ∈ news, u.oneCell' = true)
    (h63 : n + m ≤ maxLen) (hbytes : (n + m) * bytes ≤ 140737488355328) (hbase : base ≤ w.heap.size)
    (h : ∀ v' w', w'.ownsRow base e size v' (n + m) (xs ++ news) → w.grownBy w' v.ownBlock → (v'.ownBlock = v.ownBlock ∨ v'.ownBlock = some w.heap.size) → wpList P ops Q rest (a.put o.dst v') w') :
    wpList P ops Q (o :: rest) a w := by
  refine wpList_plain hgd fun K hK => ?_
  obtain ⟨v', w', hr, h2, h3, h4⟩ := run_append_own_new (P := P) (w := w) base base' t o.type e i z size bytes ht hi hz hsize hby hzs hsz v n xs hown V m c news hl h1 h63 hbytes hbase
  unfold Oper.wp execOp
  simp only [ho, resolve, invoke, builtin, Sem.run_bind, Sem.run_pure, Result.andThen_ok, List.map_toArray, List.map_cons, List.map_nil, hs, hx, hr]
  exact hK _ _ (h v' w' h2 h3 h4)

set_option maxRecDepth 100000 in
theorem jover_any {w : World} {p : Nat} {A : Option Addr} {gn cp : Nat} {a : ByteArray} {n bud : Int} {V : Option Addr} {c : Nat} {x : Jst} (h : Blk w p 146 (taskC A gn cp a n bud V c x)) :
    Calls Try.prog 73 #[.pointer (some ⟨p, 0, none⟩)] w fun e w' => e = .returned (.bool (overJ x)) ∧ Below w.heap.size w w' := by
  obtain ⟨f, ⟨s, o⟩, l⟩ := x
  have y1 : w.cell? ⟨p, 6, none⟩ = some (.bool o) := h.cell 6
  have y2 : w.cell? ⟨p, 7, none⟩ = some (.int .i64 l) := h.cell 7
  have hlt := h.lt
  have hq : overJ ⟨f, (s, o), l⟩ = (o || l == 0) := rfl
  rw [hq]
  clear hq h
  cases o with
  | true =>
    go_enter Try.func73, Try.ntmps73
    go_wp2
    go_ret
    exact ⟨rfl, (by repeat (first | exact Below.refl _ _ | assumption | refine Below.drew ?_ | refine below_drewN ?_ _ | refine Below.alloc ?_ (by first | omega | (simp; omega) | simp) _ | refine Below.setCell ?_ (by first | omega | (simp; omega) | simp) _))⟩
  | false =>
    have hl : (l == 0) = decide ((l : Int) = 0) := by
      by_cases h0 : l = 0
      · subst h0; rfl
      · rw [decide_eq_false (by omega)]; simp [h0]
    rw [Bool.false_or, hl]
    go_enter Try.func73, Try.ntmps73
    go_wp2
    go_ret
    exact ⟨rfl, (by repeat (first | exact Below.refl _ _ | assumption | refine Below.drew ?_ | refine below_drewN ?_ _ | refine Below.alloc ?_ (by first | omega | (simp; omega) | simp) _ | refine Below.setCell ?_ (by first | omega | (simp; omega) | simp) _))⟩
end Go.Proofs.Ytlamphneimpdlaa
