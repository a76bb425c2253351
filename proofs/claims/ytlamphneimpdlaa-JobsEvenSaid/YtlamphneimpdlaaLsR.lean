/- Appending a list to a row of one's own; cursors compared; slices.Clone of ints. -/
import Derived.Test.YtlamphneimpdlaaLsF
import Derived.Test.YtlamphneimpdlaaLsG
import Derived.Laws.AppendOwnNone
import Derived.WalkSpells
namespace Go.Proofs.Ytlamphneimpdlaa
open Go.RowKit

theorem run_append_own_any {P : Program} {w : World} (base base' : Nat) (t ty e : TypeId) (i : TypeInfo) (z : Value) (size bytes : Nat) (ht : P.underlying t = some (.slice e)) (hi : P.info? e = some i) (hz : i.zero = some z)
    (hsize : i.size = size) (hby : i.bytes = bytes) (hzs : z.cells.size = size) (hsz : 0 < size) (v : Value) (n : Nat) (xs : List Value) (hown : w.ownsRow base e size v n xs)
    (V : Option Addr) (m c : Nat) (news : List Value) (hx : w.ownsRow base' e size (.slice V m c) m news) (h1 : ∀ u ∈ news, u.oneCell' = true)
    (h63 : n + m ≤ maxLen) (hbytes : (n + m) * bytes ≤ 140737488355328) (hbase : base ≤ w.heap.size) :
    ∃ v' w', (Builtin.append_ #[t, t] ty #[v, .slice V m c]).run P w = .ok v' w' ∧ w'.ownsRow base e size v' (n + m) (xs ++ news) ∧ w.grownBy w' v.ownBlock := by
  rcases hx.2 with ⟨h0, hm⟩ | ⟨g, cap, cur, hv, _⟩
  · injection h0 with e1 e2 e3
    subst e1 e2 e3
    have hnil : news = [] := List.eq_nil_of_length_eq_zero (by have := hx.1; simpa using this)
    subst hnil
    exact ⟨v, w, run_append_owned_none (P := P) w base t ty e i size ht hi v n xs hown, by simpa using hown, ⟨rfl, rfl, rfl, Nat.le_refl _, fun _ _ _ => rfl⟩⟩
  · injection hv with e1 e2 e3
    subst e1 e3
    obtain ⟨v', w', h2, h3, h4, _⟩ := run_append_own (P := P) (w := w) base t ty e i z size bytes ht hi hz hsize hby hzs hsz v n xs hown ⟨g, 0, none⟩ m c news hx.1 (hx.cells rfl) h1 h63 hbytes hbase
    exact ⟨v', w', h2, h3, h4⟩
theorem wpList_append_own_any {P : Program} {w : World} {ops : Array Oper} {rest : List Oper} {o : Oper} {a : Act} {Q : Exit → Act → World → Prop} (hgd : o.guard = none) (s x : Operand) (t : TypeId)
    (ho : o.op = .call { callee := .builtin .append, args := #[s, x], argTypes := #[t, t] })
    (base base' : Nat) (e : TypeId) (i : TypeInfo) (z : Value) (size bytes : Nat) (ht : P.underlying t = some (.slice e)) (hi : P.info? e = some i) (hz : i.zero = some z)
    (hsize : i.size = size) (hby : i.bytes = bytes) (hzs : z.cells.size = size) (hsz : 0 < size)
    (v : Value) (n : Nat) (xs : List Value) (hs : a.eval s = v) (hown : w.ownsRow base e size v n xs)
    (V : Option Addr) (m c : Nat) (news : List Value) (hx : a.eval x = .slice V m c) (hl : w.ownsRow base' e size (.slice V m c) m news) (h1 : ∀ u ∈ news, u.oneCell' = true)
    (h63 : n + m ≤ maxLen) (hbytes : (n + m) * bytes ≤ 140737488355328) (hbase : base ≤ w.heap.size)
    (h : ∀ v' w', w'.ownsRow base e size v' (n + m) (xs ++ news) → w.grownBy w' v.ownBlock → wpList P ops Q rest (a.put o.dst v') w') :
    wpList P ops Q (o :: rest) a w := by
  refine wpList_plain hgd fun K hK => ?_
  obtain ⟨v', w', hr, h2, h3⟩ := run_append_own_any (P := P) (w := w) base base' t o.type e i z size bytes ht hi hz hsize hby hzs hsz v n xs hown V m c news hl h1 h63 hbytes hbase
  unfold Oper.wp execOp
  simp only [ho, resolve, invoke, builtin, Sem.run_bind, Sem.run_pure, Result.andThen_ok, List.map_toArray, List.map_cons, List.map_nil, hs, hx, hr]
  exact hK _ _ (h v' w' h2 h3)

theorem run_same_cur (w : World) (s s' : ByteArray) (b b' : Bool) : (Op.equalIn 10000 50 (.agg #[.string s, .bool b]) (.agg #[.string s', .bool b'])).run Try.prog w = .ok (decide (s.data.toList = s'.data.toList) && b == b') w := by
  have u4 := Try.underlying4
  have a4 := Try.isAgg4
  have z4 := Try.sizeOf4
  have u3 := Try.underlying9
  have a3 := Try.isAgg9
  have z3 := Try.sizeOf9
  have hS : Try.prog.underlying 50 = some (.struct (Try.prog.fieldsOf 50)) := by kernel_rfl
  have hp : Try.prog.stoodInHeld 50 = false := by kernel_rfl
  have hq := toList_eq_iff s s'
  rw [show (10000 : Nat) = 9999 + 1 from rfl, run_equalIn_agg w 9999 50 _ _ hS hp]
  simp only [Program.fieldsOf, Try.underlying50]
  go_simp
  by_cases h : s.data.toList = s'.data.toList <;> cases b <;> cases b' <;> simp_all
theorem int_info : (Try.prog.info? 3).map (fun i => (i.zero, i.size, i.bytes)) = some (some (.int .i64 0), 1, 8) := by kernel_rfl
set_option maxRecDepth 100000 in
theorem clone_any (A : Option Addr) (n c : Nat) (zs : List Int) (B : Nat) (w : World) (hr : Reads w B 1 A n (ints zs)) (hB : B ≤ w.heap.size) (hA : A = none → c = 0) (hn : Small n) :
    Calls Try.prog 26 #[.slice A n c] w fun e w' =>
      ∃ V c, e = .returned (.slice V n c) ∧ w'.ownsRow w.heap.size 3 1 (.slice V n c) n (ints zs) ∧ Below w.heap.size w w' := by
  have hnone : A = none → n = 0 := fun h => by
    rcases Nat.eq_zero_or_pos n with h0 | h0
    · exact h0
    · obtain ⟨ad, h', _⟩ := hr.lies h0
      rw [h] at h'
      cases h'
  cases A with
  | none =>
    obtain rfl := hnone rfl
    obtain rfl := hA rfl
    have hz : zs = [] := by have := hr.ints_len; exact List.eq_nil_of_length_eq_zero this
    subst hz
    have he := fun w => Lib.run_eql_slice_nil (P := Try.prog) w 48 3 none 0 0 0 0 Try.underlying48
    go_enter Try.func26, Try.ntmps26
    go_wp2
    go_ret
    exact ⟨none, 0, rfl, ⟨rfl, .inl ⟨rfl, rfl⟩⟩, Below.refl _ _⟩
  | some ad =>
    obtain ⟨i0, hi0, hz0, hz1, hz2⟩ := info_parts int_info
    have HL := Lib.hid hr.ints_len
    unfold Small at hn
    have he := fun w => Lib.run_eql_slice_nil (P := Try.prog) w 48 3 (some ad) n c 0 0 Try.underlying48
    have C1 : Hid ((w.alloc (.cells #[] 3)).ownsRow w.heap.size 3 1 (.slice (some ⟨w.heap.size, 0, none⟩) 0 0) 0 []) :=
      ⟨rfl, .inr ⟨_, _, #[], rfl, Nat.le_refl _, blk_at rfl, by omega, by unfold maxLen; omega, rfl, rfl⟩⟩
    have C2 : Hid ((ints zs).length = n * 1) := by show (ints zs).length = n * 1; rw [ints_length, HL.out]; omega
    have C3 : Hid (∀ j u, (ints zs)[j]? = some u → (w.alloc (.cells #[] 3)).cell? (ad.add j) = some u) := by
      intro j u hu
      have hj := getElem?_lt hu
      rw [ints_length, HL.out] at hj
      obtain ⟨ad', e, _, hc⟩ := (hr.alloc hB _).lies (by omega)
      injection e with e
      rw [e]
      exact hc j u hu
    clear hA hnone
    go_enter Try.func26, Try.ntmps26
    go_wp2_with (at_builtin; refine wpList_append_own_at _ rfl _ _ _ rfl w.heap.size 3 i0 _ 1 8 Try.underlying48 hi0 hz0 hz1 hz2 rfl (by omega) _ 0 [] rfl C1.out ad n c (ints zs) rfl C2.out C3.out (ints_one zs) (by unfold maxLen; omega) (by omega) (by simp) ?_; intro v' w1 hown1 hgrow hnil hat; obtain ⟨V, c', rfl⟩ := own_form hown1)
    go_ret
    rw [Nat.zero_add] at *
    exact ⟨V, c', rfl, hown1, below_app ((Below.refl _ _).alloc (Nat.le_refl _) _) C1.out hgrow (by simp) (Nat.le_refl _)⟩
end Go.Proofs.Ytlamphneimpdlaa
