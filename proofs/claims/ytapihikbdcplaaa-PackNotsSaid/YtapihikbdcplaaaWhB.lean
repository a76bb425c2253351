/- The law's helper 'with': two rules more. -/
import Derived.Test.YtapihikbdcplaaaWhA
import Derived.Test.YtapihikbdcplaaaRgJ
import Derived.Test.YtapihikbdcplaaaWeI
import Derived.Deep.DeepCutAuto
namespace Go.Proofs.Ytapihikbdcplaaa
open Go.RowKit

theorem SameN.at_ {ops : Array Oper} {n : Nat} {a0 a : Act} (h : SameN ops n a0 a) (d : Nat) (hb : ((List.range n).all fun j => (ops[j]?).bind (·.dst) != some d) = true) : a.tmps[d]? = a0.tmps[d]? :=
  h.2.2 d fun j o hj ho e => by
    rw [List.all_eq_true] at hb
    have := hb j (List.mem_range.2 hj)
    rw [ho] at this
    simp [e] at this
theorem MadeAt.at_ {ops : Array Oper} {M : Nat → Value → World → Prop} {j : Nat} {a : Act} {w : World} (h : MadeAt ops M j a w) {d : Nat} (hd : (ops[j]?).bind (·.dst) = some d) : ∃ v, a.tmps[d]? = some v ∧ M j v w := by
  obtain ⟨o, d', v, h1, h2, h3, h4⟩ := h
  rw [h1] at hd
  simp only [Option.bind_some, h2, Option.some.injEq] at hd
  subst hd
  exact ⟨v, h3, h4⟩
theorem eval_of {a : Act} {d : Nat} {v : Value} (h : a.tmps[d]? = some v) : a.eval (.tmp d) = v := by
  simp [Act.eval, Array.getD_eq_getD_getElem?, h]

def lefty : ByteArray := ⟨#[108, 101, 102, 116, 121]⟩
def righty : ByteArray := ⟨#[114, 105, 103, 104, 116, 121]⟩
/-- a grammar with two rules more -/
def withG (g : List Rl) (a b : Ex) : List Rl := g ++ [(lefty, a), (righty, b)]
def withRow (g : List Rl) (row : Nat → List Value) (ca cb : List Value) (i : Nat) : List Value := if i < g.length then row i else if i = g.length then ca else cb
theorem own_low' {w : World} {base base' n size : Nat} {e : TypeId} {v : Value} {xs : List Value} (h : w.ownsRow base e size v n xs) (hb : base' ≤ base) : w.ownsRow base' e size v n xs := by
  refine ⟨h.1, ?_⟩
  rcases h.2 with h0 | ⟨g, cap, cur, h1, h2, h3⟩
  · exact .inl h0
  · exact .inr ⟨g, cap, cur, h1, by omega, h3⟩
theorem act_eq {act : Act} {l : List Value} {d : List Deferred} (hs : act.tmps.size = l.length) (h : ∀ i, i < l.length → act.tmps[i]? = l[i]?) (hd : act.defers = d) : act = ⟨l.toArray, d⟩ := by
  obtain ⟨t, d'⟩ := act
  simp only at hs h hd
  subst hd
  congr 1
  apply Array.ext_getElem?
  intro i
  by_cases hi : i < l.length
  · rw [h i hi]; simp
  · rw [Array.getElem?_eq_none (by omega)]
    simp
    omega
theorem own_ne_t' {w : World} {base n size k : Nat} {e T : TypeId} {v : Value} {xs : List Value} {cs : Array Value} (hb : Blk w k T cs) (ho : w.ownsRow base e size v n xs) (hT : T ≠ e) : some k ≠ v.ownBlock := fun h => by
  rcases ho.2 with ⟨rfl, _⟩ | ⟨g, cap, cur, rfl, hb', hgg, _⟩
  · cases h
  · simp only [Value.ownBlock, Option.some.injEq] at h
    subst h
    have hb2 : w.heap[k]? = some (.cells cs T (0, 0)) := hb
    rw [hgg] at hb2
    injection hb2 with hb2
    injection hb2 with e1 e2 e3
    exact hT e2.symm
/-- the cells of the two rules more -/
def twoC (ca cb : List Value) : List Value := .string lefty :: (ca ++ .string righty :: cb)
/-- what each operation of the statement makes -/
def withM (w0 : World) (n : Nat) (A : Option Addr) (cp : Nat) (xs : List Value) (ca cb : List Value) (listed : Array Bool) (j : Nat) (v : Value) (w : World) : Prop := match j with
  | 0 => v = .pointer (some ⟨w0.heap.size, 0, none⟩)
  | 1 => v = .slice A n cp
  | 2 => listed.getD 8 false = true ∨ ∃ V c, v = .slice V n c ∧ w.ownsRow w0.heap.size 36 8 (.slice V n c) n xs
  | 3 => v = .agg ca.toArray
  | 4 => v = .agg (.string lefty :: ca).toArray
  | 5 => v = .agg cb.toArray
  | 6 => v = .agg (.string righty :: cb).toArray
  | 7 => listed.getD 8 false = true ∨ ∃ b, v = .slice (some ⟨b, 0, none⟩) 2 2 ∧ b < w.heap.size ∧ ∀ (j : Nat) (u : Value), (twoC ca cb)[j]? = some u → w.cell? ((⟨b, 0, none⟩ : Addr).add j) = some u
  | 8 => listed.getD 8 false = true ∧ ∃ V c, v = .slice V (n + 2) c ∧ w.ownsRow w0.heap.size 36 8 (.slice V (n + 2) c) (n + 2) (xs ++ twoC ca cb)
  | 9 => listed.getD 8 false = true ∧ ∃ V c, v = .agg #[.slice V (n + 2) c] ∧ w.ownsRow w0.heap.size 36 8 (.slice V (n + 2) c) (n + 2) (xs ++ twoC ca cb)
  | 10 => ∃ b, v = .pointer (some ⟨b, 0, none⟩) ∧ Blk w b 24 #[.slice none 0 0] ∧ w0.heap.size + 4 ≤ b
  | _ => False
theorem with_rows (g : List Rl) (row : Nat → List Value) (a b : Ex) (ca cb : List Value) : ruF (withG g a b) (withRow g row ca cb) 0 = ruF g row 0 ++ twoC ca cb := by
  unfold withG
  rw [ruF_app, ruF_same g (withRow g row ca cb) row 0 (fun j hj => by rw [Nat.zero_add]; unfold withRow; rw [if_pos hj])]
  simp only [ruF, twoC, List.append_nil, Nat.zero_add]
  have h1 : withRow g row ca cb g.length = ca := by unfold withRow; rw [if_neg (by omega), if_pos rfl]
  have h2 : withRow g row ca cb (g.length + 1) = cb := by unfold withRow; rw [if_neg (by omega), if_neg (by omega)]
  rw [h1, h2]
theorem with_at {g : List Rl} {a b : Ex} {i : Nat} {r : Rl} (h : (withG g a b)[i]? = some r) : (i < g.length ∧ g[i]? = some r) ∨ (i = g.length ∧ r = (lefty, a)) ∨ (i = g.length + 1 ∧ r = (righty, b)) := by
  unfold withG at h
  rcases Nat.lt_or_ge i g.length with hi | hi
  · rw [List.getElem?_append_left hi] at h
    exact .inl ⟨hi, h⟩
  · rw [List.getElem?_append_right hi] at h
    obtain ⟨q, hq⟩ : ∃ q, i - g.length = q := ⟨_, rfl⟩
    rw [hq] at h
    match q, h with
    | 0, h => simp at h; exact .inr (.inl ⟨by omega, h.symm⟩)
    | 1, h => simp at h; exact .inr (.inr ⟨by omega, h.symm⟩)
theorem with_is {w w' : World} {base : Nat} {g : List Rl} {A V : Option Addr} {cp c : Nat} {row : Nat → List Value} {a b : Ex} {ca cb : List Value} (h : GrIs w w.heap.size g A cp row) (ha : ExIs w w.heap.size a ca) (hb : ExIs w w.heap.size b cb) (hbel : Below w.heap.size w w')
    (ho : w'.ownsRow base 36 8 (.slice V (g.length + 2) c) (g.length + 2) (ruF g row 0 ++ twoC ca cb)) : GrIs w' w'.heap.size (withG g a b) V c (withRow g row ca cb) := by
  have hl : (withG g a b).length = g.length + 2 := by simp [withG]
  refine gr_own (base := base) (by rw [hl, with_rows]; exact ho) (fun r hr => ?_) (fun i r hr => ?_)
  · unfold withG at hr
    simp only [List.mem_append, List.mem_cons, List.not_mem_nil, or_false] at hr
    rcases hr with hr | rfl | rfl
    · obtain ⟨i, hi⟩ := List.getElem?_of_mem hr
      exact h.small i r hi
    · have hl1 : lefty.size ≤ maxLen := by decide
      exact hl1
    · have hl1 : righty.size ≤ maxLen := by decide
      exact hl1
  · rcases with_at hr with ⟨hi, hg⟩ | ⟨rfl, rfl⟩ | ⟨rfl, rfl⟩
    · unfold withRow
      rw [if_pos hi]
      exact (h.body i r hg).grow hbel
    · unfold withRow
      rw [if_neg (by omega), if_pos rfl]
      exact ha.grow hbel
    · unfold withRow
      rw [if_neg (by omega), if_neg (by omega)]
      exact hb.grow hbel
structure WithC (w : World) (n : Nat) (A : Option Addr) (cp : Nat) (ca cb : List Value) (W : World) : Prop where
  bel : Below w.heap.size w W
  g : Blk W w.heap.size 24 #[.slice A n cp]
  a : Blk W (w.heap.size + 1) 34 ca.toArray
  b : Blk W (w.heap.size + 1 + 1) 34 cb.toArray
  r : Blk W (w.heap.size + 1 + 1 + 1) 24 #[.slice none 0 0]
section
variable {w W W' : World} {n cp : Nat} {A : Option Addr} {ca cb xs : List Value} {listed : Array Bool}
theorem WithC.below (h : WithC w n A cp ca cb W) (hb : Below W.heap.size W W') : WithC w n A cp ca cb W' :=
  ⟨h.bel.trans (hb.mono h.bel.size), h.g.below hb h.g.lt, h.a.below hb h.a.lt, h.b.below hb h.b.lt, h.r.below hb h.r.lt⟩
theorem set8 {i : Nat} (h : listed.getD 8 false = true) : (listed.setIfInBounds i true).getD 8 false = true := by
  by_cases hi : i = 8
  · subst hi
    have : 8 < listed.size := by
      rcases Nat.lt_or_ge 8 listed.size with h' | h'
      · exact h'
      · simp [Array.getElem?_eq_none h'] at h
    simp [this]
  · rw [getD_set_ne false hi]; exact h
theorem withM_keep {i j : Nat} {u : Value} (hb : Below W.heap.size W W') (h : withM w n A cp xs ca cb listed j u W) : withM w n A cp xs ca cb (listed.setIfInBounds i true) j u W' := by
  match j, h with
  | 0, h => exact h
  | 1, h => exact h
  | 2, h =>
    rcases h with h | ⟨V, c, h1, h2⟩
    · exact .inl (set8 h)
    · exact .inr ⟨V, c, h1, own_below h2 hb⟩
  | 3, h => exact h
  | 4, h => exact h
  | 5, h => exact h
  | 6, h => exact h
  | 7, h =>
    rcases h with h | ⟨b, h1, h2, h3⟩
    · exact .inl (set8 h)
    · exact .inr ⟨b, h1, Nat.lt_of_lt_of_le h2 hb.size, fun j u hu => (hb.cell (by rw [add_block]; exact h2)).trans (h3 j u hu)⟩
  | 8, h =>
    obtain ⟨h0, V, c, h1, h2⟩ := h
    exact ⟨set8 h0, V, c, h1, own_below h2 hb⟩
  | 9, h =>
    obtain ⟨h0, V, c, h1, h2⟩ := h
    exact ⟨set8 h0, V, c, h1, own_below h2 hb⟩
  | 10, h =>
    obtain ⟨b, h1, h2, h3⟩ := h
    exact ⟨b, h1, h2.below hb h2.lt, h3⟩
end

set_option maxRecDepth 100000 in
set_option maxHeartbeats 16000000 in
theorem with_any {g : List Rl} {A : Option Addr} {cp : Nat} {row : Nat → List Value} {a b : Ex} {ca cb : List Value} {w : World} (h : GrIs w w.heap.size g A cp row) (ha : ExIs w w.heap.size a ca) (hb : ExIs w w.heap.size b cb) (hg : g.length ≤ 1466015503690) :
    Calls Try.prog 61 #[.agg #[.slice A g.length cp], .agg ca.toArray, .agg cb.toArray] w fun e w' => ∃ V c row', e = .returned (.tuple #[.agg #[.slice V (withG g a b).length c], .int .i64 g.length, .bool (decide ((wellG (withG g a b)).2 = 0))]) ∧
      GrIs w' w'.heap.size (withG g a b) V c row' ∧ Below w.heap.size w w' := by
  obtain ⟨i0, hi0, hz0, hz1, hz2⟩ := info_parts rule_info
  have HG := Lib.hid h
  have HA := Lib.hid ha
  have HB := Lib.hid hb
  obtain ⟨ka, a1, a2, a3, a4, at_, aA, an, acp, hca⟩ := a.parts ha
  obtain ⟨kb, b1, b2, b3, b4, bt_, bA, bn, bcp, hcb⟩ := b.parts hb
  have hxl := h.reads
  have hcl := fun W (hW : Below w.heap.size w W) => cloneR_any A g.length cp (ruF g row 0) W.heap.size W ((hxl.below hW).more hW.size) (Nat.le_refl _) h.nil (by omega) (ruF_one g row 0 (fun j hj => by rw [Nat.zero_add]; exact ex_one' (h.body j _ (List.getElem?_eq_getElem hj))))
  have HCL := Lib.hid hcl
  have HXL := Lib.hid hxl
  have hone2 : ∀ u ∈ twoC ca cb, u.oneCell' = true := fun u hu => by
    unfold twoC at hu
    simp only [List.mem_cons, List.mem_append] at hu
    rcases hu with rfl | hu | rfl | hu
    · rfl
    · exact ex_one' ha u hu
    · rfl
    · exact ex_one' hb u hu
  have HONE := Lib.hid hone2
  have hl2 : (twoC ca cb).length = 2 * 8 := by
    unfold twoC
    have h1 := ex_len ha
    have h2 := ex_len hb
    simp
    omega
  have HL2 := Lib.hid hl2
  clear h ha hb hxl hcl hone2 hl2
  subst hca hcb
  generalize hxs : ruF g row 0 = xs at HCL HXL
  have HXS := Lib.hid hxs
  clear hxs
  go_enter Try.func61, Try.ntmps61
  go_upto_region 2 with fail
  have hC0 : WithC w g.length A cp [.int .i64 ka, .int .u64 a1, .int .u64 a2, .int .u64 a3, .int .u64 a4, .string at_, .slice aA an acp] [.int .i64 kb, .int .u64 b1, .int .u64 b2, .int .u64 b3, .int .u64 b4, .string bt_, .slice bA bn bcp] ((((w.alloc (.cells #[.slice A g.length cp] 24)).alloc (.cells #[.int .i64 ka, .int .u64 a1, .int .u64 a2, .int .u64 a3, .int .u64 a4, .string at_, .slice aA an acp] 34)).alloc (.cells #[.int .i64 kb, .int .u64 b1, .int .u64 b2, .int .u64 b3, .int .u64 b4, .string bt_, .slice bA bn bcp] 34)).alloc (.cells #[.slice none 0 0] 24)) :=
    ⟨(by repeat (first | exact Below.refl _ _ | assumption | refine Below.drew ?_ | refine below_drewN ?_ _ | refine Below.alloc ?_ (by first | omega | (simp; omega) | simp) _ | refine Below.setCell ?_ (by first | omega | (simp; omega) | simp) _)), (((blk_at rfl).alloc _).alloc _).alloc _, ((blk_at (by simp)).alloc _).alloc _, (blk_at (by simp)).alloc _, blk_at (by simp)⟩
  generalize hca : [Value.int .i64 ka, .int .u64 a1, .int .u64 a2, .int .u64 a3, .int .u64 a4, .string at_, .slice aA an acp] = ca at hC0 HA HL2 HONE
  generalize hcb : [Value.int .i64 kb, .int .u64 b1, .int .u64 b2, .int .u64 b3, .int .u64 b4, .string bt_, .slice bA bn bcp] = cb at hC0 HB HL2 HONE
  refine wp_region_invP (WithC w g.length A cp ca cb) (withM w g.length A cp xs ca cb) 11 (by kernel_rfl) (by kernel_rfl) (by kernel_rfl) (by kernel_rfl) (hC0.below ((Below.refl _ _).drew)) ?_ ?_
  · intro i o hi ho
    have hi11 : i = 0 ∨ i = 1 ∨ i = 2 ∨ i = 3 ∨ i = 4 ∨ i = 5 ∨ i = 6 ∨ i = 7 ∨ i = 8 ∨ i = 9 ∨ i = 10 := by omega
    rcases hi11 with rfl | rfl | rfl | rfl | rfl | rfl | rfl | rfl | rfl | rfl | rfl
    all_goals
      simp only [List.getElem?_toArray, List.getElem?_cons_zero, List.getElem?_cons_succ, Option.some.injEq] at ho
      subst ho
      intro listed act W hls hun hC hS hD
      refine ⟨rfl, fun K hK => ?_⟩
    · have h3 : act.tmps[3]? = some (.pointer (some ⟨w.heap.size, 0, none⟩)) := (hS.at_ 3 (by kernel_rfl)).trans rfl
      unfold Oper.wp
      go_simp
      exact hK _ _ rfl hC (fun j u _ h => withM_keep (Below.refl _ _) h)
    · obtain ⟨v16, h16, m16⟩ := (hD ⟨0, .data⟩ (by simp) rfl).2.at_ (d := 16) rfl
      have hm : v16 = _ := m16
      subst hm
      have e16 := eval_of h16
      have g0 : W.cell? ⟨w.heap.size, 0, none⟩ = some (.slice A g.length cp) := hC.g.cell 0
      unfold Oper.wp
      go_simp
      exact hK _ _ rfl hC (fun j u _ h => withM_keep (Below.refl _ _) h)
    · obtain ⟨v17, h17, m17⟩ := (hD ⟨1, .data⟩ (by simp) rfl).2.at_ (d := 17) rfl
      have hm : v17 = _ := m17
      subst hm
      have e17 := eval_of h17
      unfold Oper.wp
      go_simp
      refine (HCL.out W hC.bel).mono ?_
      rintro e w' ⟨V, c, rfl, hown, hb⟩
      exact hK _ _ (.inr ⟨V, c, rfl, own_low' hown hC.bel.size⟩) (hC.below hb) (fun j u _ h => withM_keep hb h)
    · have h4 : act.tmps[4]? = some (.pointer (some ⟨w.heap.size + 1, 0, none⟩)) := (hS.at_ 4 (by kernel_rfl)).trans rfl
      subst hca
      have hCa := hC.a
      have x0 : W.cell? ⟨w.heap.size + 1, 0, none⟩ = some (.int .i64 ka) := hCa.cell 0; have x1 : W.cell? ⟨w.heap.size + 1, 1, none⟩ = some (.int .u64 a1) := hCa.cell 1; have x2 : W.cell? ⟨w.heap.size + 1, 2, none⟩ = some (.int .u64 a2) := hCa.cell 2; have x3 : W.cell? ⟨w.heap.size + 1, 3, none⟩ = some (.int .u64 a3) := hCa.cell 3; have x4 : W.cell? ⟨w.heap.size + 1, 4, none⟩ = some (.int .u64 a4) := hCa.cell 4; have x5 : W.cell? ⟨w.heap.size + 1, 5, none⟩ = some (.string at_) := hCa.cell 5; have x6 : W.cell? ⟨w.heap.size + 1, 6, none⟩ = some (.slice aA an acp) := hCa.cell 6
      unfold Oper.wp
      go_simp
      exact hK _ _ rfl hC (fun j u _ h => withM_keep (Below.refl _ _) h)
    · obtain ⟨v19, h19, m19⟩ := (hD ⟨3, .data⟩ (by simp) rfl).2.at_ (d := 19) rfl
      have hm : v19 = _ := m19
      subst hm
      subst hca
      have e19 := eval_of h19
      unfold Oper.wp
      go_simp
      exact hK _ _ rfl hC (fun j u _ h => withM_keep (Below.refl _ _) h)
    · have h5 : act.tmps[5]? = some (.pointer (some ⟨w.heap.size + 1 + 1, 0, none⟩)) := (hS.at_ 5 (by kernel_rfl)).trans rfl
      subst hcb
      have hCb := hC.b
      have x0 : W.cell? ⟨w.heap.size + 1 + 1, 0, none⟩ = some (.int .i64 kb) := hCb.cell 0; have x1 : W.cell? ⟨w.heap.size + 1 + 1, 1, none⟩ = some (.int .u64 b1) := hCb.cell 1; have x2 : W.cell? ⟨w.heap.size + 1 + 1, 2, none⟩ = some (.int .u64 b2) := hCb.cell 2; have x3 : W.cell? ⟨w.heap.size + 1 + 1, 3, none⟩ = some (.int .u64 b3) := hCb.cell 3; have x4 : W.cell? ⟨w.heap.size + 1 + 1, 4, none⟩ = some (.int .u64 b4) := hCb.cell 4; have x5 : W.cell? ⟨w.heap.size + 1 + 1, 5, none⟩ = some (.string bt_) := hCb.cell 5; have x6 : W.cell? ⟨w.heap.size + 1 + 1, 6, none⟩ = some (.slice bA bn bcp) := hCb.cell 6
      unfold Oper.wp
      go_simp
      exact hK _ _ rfl hC (fun j u _ h => withM_keep (Below.refl _ _) h)
    · obtain ⟨v21, h21, m21⟩ := (hD ⟨5, .data⟩ (by simp) rfl).2.at_ (d := 21) rfl
      have hm : v21 = _ := m21
      subst hm
      subst hcb
      have e21 := eval_of h21
      unfold Oper.wp
      go_simp
      exact hK _ _ rfl hC (fun j u _ h => withM_keep (Below.refl _ _) h)
    · obtain ⟨v20, h20, m20⟩ := (hD ⟨4, .data⟩ (by simp) rfl).2.at_ (d := 20) rfl
      obtain ⟨v22, h22, m22⟩ := (hD ⟨6, .data⟩ (by simp) rfl).2.at_ (d := 22) rfl
      have hm : v20 = _ := m20
      have hm' : v22 = _ := m22
      subst hm hm'
      subst hca hcb
      have e20 := eval_of h20
      have e22 := eval_of h22
      unfold Oper.wp
      go_simp
      have hbb : Below W.heap.size W (W.alloc (.cells #[.string lefty, .int .i64 ka, .int .u64 a1, .int .u64 a2, .int .u64 a3, .int .u64 a4, .string at_, .slice aA an acp, .string righty, .int .i64 kb, .int .u64 b1, .int .u64 b2, .int .u64 b3, .int .u64 b4, .string bt_, .slice bA bn bcp] 36)) := (Below.refl _ _).alloc (Nat.le_refl _) _
      refine hK _ _ (.inr ⟨W.heap.size, rfl, by simp, fun j u hu => ?_⟩) (hC.below hbb) (fun j u _ h => withM_keep hbb h)
      rw [cell_add, (blk_at rfl : Blk (W.alloc (.cells #[.string lefty, .int .i64 ka, .int .u64 a1, .int .u64 a2, .int .u64 a3, .int .u64 a4, .string at_, .slice aA an acp, .string righty, .int .i64 kb, .int .u64 b1, .int .u64 b2, .int .u64 b3, .int .u64 b4, .string bt_, .slice bA bn bcp] 36)) W.heap.size _ _).cell, ← Array.getElem?_toList]
      exact hu
    · obtain ⟨v18, h18, m18⟩ := (hD ⟨2, .data⟩ (by simp) rfl).2.at_ (d := 18) rfl
      obtain ⟨v23, h23, m23⟩ := (hD ⟨7, .data⟩ (by simp) rfl).2.at_ (d := 23) rfl
      have e18 := eval_of h18
      have e23 := eval_of h23
      rcases m18 with m18 | ⟨V, c, rfl, hown⟩
      · rw [hun] at m18; cases m18
      rcases m23 with m23 | ⟨bb, rfl, hbl, hcell⟩
      · rw [hun] at m23; cases m23
      have h8 : (listed.setIfInBounds 8 true).getD 8 false = true := by
        have : 8 < listed.size := by rw [hls]; decide
        simp [this]
      refine wp_append_own W (.tmp 18) (.tmp 23) 22 rfl w.heap.size 36 i0 _ 8 96 Try.underlying22 hi0 hz0 hz1 hz2 rfl (by decide) (.slice V g.length c) g.length xs e18 hown ⟨bb, 0, none⟩ 2 2 (twoC ca cb) e23 HL2.out hcell HONE.out (by unfold maxLen; omega) (by omega) hC.bel.size ?_
      intro v' w' h2 h3 _
      obtain ⟨V', c', rfl⟩ := own_form h2
      have hbw := below_app hC.bel hown h3 hC.bel.size (Nat.le_refl _)
      refine hK _ _ ⟨h8, V', c', rfl, h2⟩ ⟨hbw, hC.g.grown h3 (own_ne_t' hC.g hown (by decide)), hC.a.grown h3 (own_ne_t' hC.a hown (by decide)), hC.b.grown h3 (own_ne_t' hC.b hown (by decide)), hC.r.grown h3 (own_ne_t' hC.r hown (by decide))⟩ fun j u hj hm => ?_
      match j, hm with
      | 0, h => exact h
      | 1, h => exact h
      | 2, h => exact .inl h8
      | 3, h => exact h
      | 4, h => exact h
      | 5, h => exact h
      | 6, h => exact h
      | 7, h => exact .inl h8
      | 8, h => rw [hun] at hj; cases hj
      | 9, h => have := h.1; rw [hun] at this; cases this
      | 10, h =>
        obtain ⟨b', k1, k2, k3⟩ := h
        exact ⟨b', k1, k2.grown h3 (own_ne_t' k2 hown (by decide)), k3⟩
    · obtain ⟨v24, h24, m24⟩ := (hD ⟨8, .data⟩ (by simp) rfl).2.at_ (d := 24) rfl
      obtain ⟨h8, V, c, rfl, hown⟩ := m24
      have e24 := eval_of h24
      unfold Oper.wp
      go_simp
      exact hK _ _ ⟨set8 h8, V, c, rfl, hown⟩ hC (fun j u _ h => withM_keep (Below.refl _ _) h)
    · unfold Oper.wp
      go_simp
      have hbb : Below W.heap.size W (W.alloc (.cells #[.slice none 0 0] 24)) := (Below.refl _ _).alloc (Nat.le_refl _) _
      exact hK _ _ ⟨W.heap.size, rfl, blk_at rfl, by have := hC.r.lt; omega⟩ (hC.below hbb) (fun j u _ h => withM_keep hbb h)
  · intro listed act W hC hS hl hM
    obtain ⟨v10, h10, b10, rfl, hb10, hle10⟩ := (hM 10 (by omega)).at_ (d := 10) rfl
    obtain ⟨v25, h25, h8, V, c, rfl, hown⟩ := (hM 9 (by omega)).at_ (d := 25) rfl
    obtain ⟨v16, h16, _⟩ := (hM 0 (by omega)).at_ (d := 16) rfl
    obtain ⟨v17, h17, _⟩ := (hM 1 (by omega)).at_ (d := 17) rfl
    obtain ⟨v18, h18, _⟩ := (hM 2 (by omega)).at_ (d := 18) rfl
    obtain ⟨v19, h19, _⟩ := (hM 3 (by omega)).at_ (d := 19) rfl
    obtain ⟨v20, h20, _⟩ := (hM 4 (by omega)).at_ (d := 20) rfl
    obtain ⟨v21, h21, _⟩ := (hM 5 (by omega)).at_ (d := 21) rfl
    obtain ⟨v22, h22, _⟩ := (hM 6 (by omega)).at_ (d := 22) rfl
    obtain ⟨v23, h23, _⟩ := (hM 7 (by omega)).at_ (d := 23) rfl
    obtain ⟨v24, h24, _⟩ := (hM 8 (by omega)).at_ (d := 24) rfl
    refine ⟨rfl, ?_⟩
    have z0 : W.cell? ⟨b10, 0, none⟩ = some (.slice none 0 0) := hb10.cell 0
    have f0 := hb10.frozen 0
    unfold Oper.wp
    go_simp
    have hact := act_eq (act := act) (l := [.agg #[.slice A g.length cp], .agg ca.toArray, .agg cb.toArray, .pointer (some ⟨w.heap.size, 0, none⟩), .pointer (some ⟨w.heap.size + 1, 0, none⟩), .pointer (some ⟨w.heap.size + 1 + 1, 0, none⟩), .pointer (some ⟨w.heap.size + 1 + 1 + 1, 0, none⟩), .int .i64 0, .bool false, .int .i64 g.length, .pointer (some ⟨b10, 0, none⟩), undef, undef, .pointer (some ⟨w.heap.size, 0, none⟩), .slice A g.length cp, .int .i64 g.length, v16, v17, v18, v19, v20, v21, v22, v23, v24, .agg #[.slice V (g.length + 2) c], undef, undef, undef, undef, undef, undef, undef, undef, undef]) (d := []) hS.2.1 (by
      intro i hi
      match i, hi with
      | 0, _ => exact (hS.at_ 0 (by kernel_rfl)).trans rfl
      | 1, _ => exact (hS.at_ 1 (by kernel_rfl)).trans rfl
      | 2, _ => exact (hS.at_ 2 (by kernel_rfl)).trans rfl
      | 3, _ => exact (hS.at_ 3 (by kernel_rfl)).trans rfl
      | 4, _ => exact (hS.at_ 4 (by kernel_rfl)).trans rfl
      | 5, _ => exact (hS.at_ 5 (by kernel_rfl)).trans rfl
      | 6, _ => exact (hS.at_ 6 (by kernel_rfl)).trans rfl
      | 7, _ => exact (hS.at_ 7 (by kernel_rfl)).trans rfl
      | 8, _ => exact (hS.at_ 8 (by kernel_rfl)).trans rfl
      | 9, _ => exact (hS.at_ 9 (by kernel_rfl)).trans rfl
      | 10, _ => exact h10
      | 11, _ => exact (hS.at_ 11 (by kernel_rfl)).trans rfl
      | 12, _ => exact (hS.at_ 12 (by kernel_rfl)).trans rfl
      | 13, _ => exact (hS.at_ 13 (by kernel_rfl)).trans rfl
      | 14, _ => exact (hS.at_ 14 (by kernel_rfl)).trans rfl
      | 15, _ => exact (hS.at_ 15 (by kernel_rfl)).trans rfl
      | 16, _ => exact h16
      | 17, _ => exact h17
      | 18, _ => exact h18
      | 19, _ => exact h19
      | 20, _ => exact h20
      | 21, _ => exact h21
      | 22, _ => exact h22
      | 23, _ => exact h23
      | 24, _ => exact h24
      | 25, _ => exact h25
      | 26, _ => exact (hS.at_ 26 (by kernel_rfl)).trans rfl
      | 27, _ => exact (hS.at_ 27 (by kernel_rfl)).trans rfl
      | 28, _ => exact (hS.at_ 28 (by kernel_rfl)).trans rfl
      | 29, _ => exact (hS.at_ 29 (by kernel_rfl)).trans rfl
      | 30, _ => exact (hS.at_ 30 (by kernel_rfl)).trans rfl
      | 31, _ => exact (hS.at_ 31 (by kernel_rfl)).trans rfl
      | 32, _ => exact (hS.at_ 32 (by kernel_rfl)).trans rfl
      | 33, _ => exact (hS.at_ 33 (by kernel_rfl)).trans rfl
      | 34, _ => exact (hS.at_ 34 (by kernel_rfl)).trans rfl
      | n + 35, hi => exact absurd hi (by simp)) hS.1
    have hne1 : b10 ≠ w.heap.size + 1 + 1 + 1 := by omega
    have hne2 : w.heap.size + 1 + 1 + 1 ≠ b10 := by omega
    have hbl := hb10.lt
    have hr0 : W.cell? ⟨w.heap.size + 1 + 1 + 1, 0, none⟩ = some (.slice none 0 0) := hC.r.cell 0
    have hrf := hC.r.frozen 0
    have hbx : Blk (W.setCell ⟨b10, 0, none⟩ (.slice V (g.length + 2) c)) b10 24 #[.slice V (g.length + 2) c] := hb10.set_ 0 _
    have hrx : Blk (W.setCell ⟨b10, 0, none⟩ (.slice V (g.length + 2) c)) (w.heap.size + 1 + 1 + 1) 24 #[.slice none 0 0] := hC.r.far (by simp; omega) _
    have hgp : W.grownBy (W.setCell ⟨b10, 0, none⟩ (.slice V (g.length + 2) c)) (some b10) := ⟨rfl, rfl, rfl, by simp [World.setCell], fun k hk hne => Below.heap_setCell W ⟨b10, 0, none⟩ _ k (by rintro rfl; exact hne rfl)⟩
    have hnb := own_ne_t' hb10 hown (by decide)
    have hown2 : (W.setCell ⟨b10, 0, none⟩ (.slice V (g.length + 2) c)).ownsRow w.heap.size 36 8 (.slice V (g.length + 2) c) (g.length + 2) (xs ++ twoC ca cb) := hown.kept hgp (.inr (fun e => hnb e.symm))
    have hbel : Below w.heap.size w (W.setCell ⟨b10, 0, none⟩ (.slice V (g.length + 2) c)) := hC.bel.setCell (by simp; omega) _
    clear z0 f0 hb10 hown hgp hnb hr0 hrf hM hS
    rw [hact]
    clear hact
    generalize W.setCell ⟨b10, 0, none⟩ (.slice V (g.length + 2) c) = W2 at hbx hrx hown2 hbel ⊢
    have x0 : W2.cell? ⟨b10, 0, none⟩ = some (.slice V (g.length + 2) c) := hbx.cell 0
    have hlen : (withG g a b).length = g.length + 2 := by simp [withG]
    rw [← HXS.out] at hown2
    have hG2 := with_is HG.out HA.out HB.out hbel hown2
    have hwl := well_any hG2
    unfold WellQ at hwl
    rw [hlen] at hwl
    generalize hwx : wellG (withG g a b) = wx at hwl
    obtain ⟨n1, n2⟩ := wx
    have HWL := Lib.hid hwl
    have HWX := Lib.hid hwx
    have HG2 := Lib.hid hG2
    have HOW := Lib.hid hown2
    clear hwl hwx hG2 hown2
    go_wp2_with fail
    refine HWL.out.mono ?_
    rintro e w3 ⟨rfl, hb3⟩
    have hbx3 := hbx.below hb3 hbx.lt
    have hrx3 := hrx.below hb3 hrx.lt
    have hw3 : Below w.heap.size w w3 := hbel.trans (hb3.mono hbel.size)
    have hG3 := HG2.out.grow hb3
    have y0 : w3.cell? ⟨b10, 0, none⟩ = some (.slice V (g.length + 2) c) := hbx3.cell 0
    have z0 : w3.cell? ⟨w.heap.size + 1 + 1 + 1, 0, none⟩ = some (.slice none 0 0) := hrx3.cell 0
    have f0 := hrx3.frozen 0
    have hrl := hrx3.lt
    have hw4 : Below w.heap.size w (w3.setCell ⟨w.heap.size + 1 + 1 + 1, 0, none⟩ (.slice V (g.length + 2) c)) := hw3.setCell (by simp; omega) _
    have hown3 := own_below HOW.out hb3
    have hnb3 := own_ne_t' hrx3 hown3 (by decide)
    have hgp3 : w3.grownBy (w3.setCell ⟨w.heap.size + 1 + 1 + 1, 0, none⟩ (.slice V (g.length + 2) c)) (some (w.heap.size + 1 + 1 + 1)) := ⟨rfl, rfl, rfl, by simp [World.setCell], fun k hk hne => Below.heap_setCell w3 ⟨w.heap.size + 1 + 1 + 1, 0, none⟩ _ k (by rintro rfl; exact hne rfl)⟩
    have hG4 := with_is HG.out HA.out HB.out hw4 (hown3.kept hgp3 (.inr (fun e => hnb3 e.symm)))
    have hrx4 := hrx3.set_ 0 (.slice V (g.length + 2) c)
    have q0 : (w3.setCell ⟨w.heap.size + 1 + 1 + 1, 0, none⟩ (.slice V (g.length + 2) c)).cell? ⟨w.heap.size + 1 + 1 + 1, 0, none⟩ = some (.slice V (g.length + 2) c) := hrx4.cell 0
    have HG4 := Lib.hid hG4
    clear hb3 hG3 hG4 HG2 HWL x0 hown3 hnb3 hgp3 HOW hrx4
    go_wp2
    exact bodyPost_ret (v := .tuple #[.agg #[.slice V (g.length + 2) c], .int .i64 g.length, .bool (n2 == 0)]) (by simp [results, Try.results61, go_sem, q0]) rfl ⟨V, c, _, by rw [hlen, HWX.out, show (n2 == 0) = decide (n2 = 0) from rfl], HG4.out, hw4⟩
end Go.Proofs.Ytapihikbdcplaaa
