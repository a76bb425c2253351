/- What the operations of a law's statement make: values, expressions, kids. -/
import Derived.Test.YtapihikbdcplaaaWhD
namespace Go.Proofs.Ytapihikbdcplaaa
open Go.RowKit Go.Maps

inductive Mn where
  | v (x : Value)
  | e (x : Ex)
  | k (l : List Ex)
def Mn.holds : Mn → Value → World → Prop
  | .v x, u, _ => u = x
  | .e x, u, w => ∃ cs, u = .agg cs.toArray ∧ ExIs w w.heap.size x cs
  | .k l, u, w => ∃ b, u = .slice (some ⟨b, 0, none⟩) l.length l.length ∧ ∀ k, ExIs w w.heap.size (ofN k l) (exCells k 0 0 0 0 ⟨#[]⟩ (some ⟨b, 0, none⟩) l.length l.length)
theorem Mn.keep {m : Mn} {u : Value} {w w' : World} (hb : Below w.heap.size w w') (h : m.holds u w) : m.holds u w' := by
  cases m with
  | v x => exact h
  | e x =>
    obtain ⟨cs, h1, h2⟩ := h
    exact ⟨cs, h1, h2.grow hb⟩
  | k l =>
    obtain ⟨b, h1, h2⟩ := h
    exact ⟨b, h1, fun k => (h2 k).grow hb⟩
def mnM (tab : List Mn) (_ : Array Bool) (j : Nat) (v : Value) (w : World) : Prop := (tab.getD j (.v undef)).holds v w
theorem wanted_some {ops : Array Oper} {o : Oper} {act : Act} {j d : Nat} (hg : o.guard = some (j, true)) (hd : (ops[j]?).bind (·.dst) = some d) (h : act.tmps[d]? = some (.bool true)) : Region.wanted o (yielded ops act.tmps) = true := by
  simp [Region.wanted, hg, yielded, hd, h]
theorem wf_of {k : Int} (hk : I64 k) {l : List Ex} (h : ∀ e ∈ l, WfE e) : WfE (ofN k l) := .mk _ _ _ _ _ _ _ hk (by unfold U64; omega) (by unfold U64; omega) (by unfold U64; omega) (by unfold U64; omega) h
theorem wf_1 {k : Int} (hk : I64 k) {a : Ex} (h : WfE a) : WfE (ofN k [a]) := wf_of hk fun e he => by simp only [List.mem_singleton] at he; subst he; exact h
theorem wf_2 {k : Int} (hk : I64 k) {a b : Ex} (h : WfE a) (h' : WfE b) : WfE (ofN k [a, b]) := wf_of hk fun e he => by
  simp only [List.mem_cons, List.not_mem_nil, or_false] at he
  rcases he with rfl | rfl
  · exact h
  · exact h'
def emptyX : Ex := .mk 1 0 0 0 0 ⟨#[]⟩ []
theorem wf_empty : WfE emptyX := .mk _ _ _ _ _ _ _ (by unfold I64; omega) (by unfold U64; omega) (by unfold U64; omega) (by unfold U64; omega) (by unfold U64; omega) (fun e h => by cases h)

theorem emptyX_is (w : World) : ExIs w w.heap.size emptyX [.int .i64 1, .int .u64 0, .int .u64 0, .int .u64 0, .int .u64 0, .string ⟨#[]⟩, .slice none 0 0] := emptyE_is w
/-- what stands while a law's statement runs: the boxes of its grammar and of its expressions -/
structure LawC (w0 : World) (gb n : Nat) (A : Option Addr) (cp : Nat) (l : List (Nat × List Value)) (W : World) : Prop where
  bel : Below w0.heap.size w0 W
  g : Blk W gb 24 #[.slice A n cp]
  ex : ∀ (i : Nat) (p : Nat × List Value), l[i]? = some p → Blk W p.1 34 p.2.toArray
theorem LawC.below {w0 W W' : World} {gb n cp : Nat} {A : Option Addr} {l : List (Nat × List Value)} (h : LawC w0 gb n A cp l W) (hb : Below W.heap.size W W') : LawC w0 gb n A cp l W' :=
  ⟨h.bel.trans (hb.mono h.bel.size), h.g.below hb h.g.lt, fun i p hp => (h.ex i p hp).below hb (h.ex i p hp).lt⟩
theorem sound_look : lookG [(nameA, ofN 6 [litE ⟨#[120]⟩, litE ⟨#[121]⟩])] ⟨#[121]⟩ = 0 := by decide +kernel
theorem sound_ev : ev [(nameA, ofN 6 [litE ⟨#[120]⟩, litE ⟨#[121]⟩])] [121] 5 (ofN 6 [litE ⟨#[120]⟩, litE ⟨#[121]⟩]) 0 = some (some 1) := by decide +kernel
set_option maxRecDepth 100000 in
set_option maxHeartbeats 4000000 in
theorem sound_b (w : World) : Calls Try.prog 32 #[] w fun e w' => e = .returned (.bool true) ∧ Below w.heap.size w w' := by
  have hso := run_same_out
  have hlit := lit_b
  have hof := of_b
  have hone := fun (W : World) (b : Nat) (hb : Blk W b 34 (exCells 3 0 0 0 0 ⟨#[120]⟩ none 0 0 ++ exCells 3 0 0 0 0 ⟨#[121]⟩ none 0 0).toArray) =>
    one_b (ofN 6 [litE ⟨#[120]⟩, litE ⟨#[121]⟩]) _ W (ex_two (litE_is W _ (by decide)) (litE_is W _ (by decide)) hb (by simp) 6)
  unfold exCells at hlit hof hone
  simp only [List.cons_append, List.nil_append] at hone
  have HL := Lib.hid hlit
  have HO := Lib.hid hof
  have H1 := Lib.hid hone
  clear hlit hof hone
  go_enter Try.func32, Try.ntmps32
  go_wp2_with fail
  refine (HL.out _ _).mono ?_
  rintro e w1 ⟨rfl, hw1⟩
  go_wp2_with fail
  refine (HL.out _ _).mono ?_
  rintro e w2 ⟨rfl, hb2⟩
  have hw2 := hw1.trans (hb2.mono hw1.size)
  have hz2 := hw2.size
  clear hb2 hw1
  go_wp2_with fail
  refine (HO.out _ _ _ _ _).mono ?_
  rintro e w3 ⟨rfl, hb3⟩
  have hk3 := Blk.below (blk_at (w := w2) (t := 34) rfl) hb3 (by simp)
  have hw3 : Below w.heap.size w w3 := (hw2.alloc hz2 _).trans (hb3.mono (by simp; omega))
  clear hb3
  go_wp2_with fail
  refine (H1.out _ _ hk3).mono ?_
  rintro e w4 ⟨b, rfl, hG, hb4⟩
  have hw4 := hw3.trans (hb4.mono hw3.size)
  clear hb4 hw3 hk3 hw2 hz2
  have hwf : ∀ r ∈ [(nameA, ofN 6 [litE ⟨#[120]⟩, litE ⟨#[121]⟩])], WfE r.2 := wf_one (wf_2 (by unfold I64; omega) (wfe_lit _) (wfe_lit _))
  go_wp2_with fail
  refine (at_any hG hwf 0 ⟨#[121]⟩ 0).mono ?_
  rintro e w5 ⟨v, x, hv, rfl, hb5⟩
  obtain ⟨rfl, o, hsem, hv1⟩ := at_there sound_look (j := 0) (q := 0) rfl (by simp) hv
  obtain rfl := hsem.eq ⟨5, sound_ev⟩
  have hv2 : v = some 1 := by rw [hv1]; rfl
  subst hv2
  have hw5 := hw4.trans (hb5.mono hw4.size)
  have hov : outV (some 1) = .agg #[.bool true, .int .i64 1] := rfl
  rw [hov]
  have hz5 := hw5.size
  clear hb5 hv hv1 hG hsem hwf
  go_wp2
  go_ret
  exact ⟨rfl, (by repeat (first | exact Below.refl _ _ | assumption | refine Below.drew ?_ | refine below_drewN ?_ _ | refine Below.alloc ?_ (by first | omega | (simp; omega) | simp) _ | refine Below.setCell ?_ (by first | omega | (simp; omega) | simp) _))⟩
end Go.Proofs.Ytapihikbdcplaaa
