/- The walk of the law CoverTells. -/
import Derived.Test.YtphfckihdhmhpaaCoW
import Derived.Test.YtphfckihdhmhpaaCoA
import Derived.Test.YtphfckihdhmhpaaXD
import Derived.Test.YtphfckihdhmhpaaCov1
import Derived.Deep.DeepCutAuto
namespace Go.Proofs.Ytphfckihdhmhpaa
open Go.RowKit Go.Maps

theorem wf_litC (t : ByteArray) : WfE (litE t) := .mk _ _ _ _ _ _ _ (by unfold I64; omega) (by unfold U64; omega) (by unfold U64; omega) (by unfold U64; omega) (by unfold U64; omega) (fun e h => by cases h)
theorem wf_ofC {k : Int} (hk : I64 k) {ks : List Ex} (h : ∀ e ∈ ks, WfE e) : WfE (ofN k ks) := .mk _ _ _ _ _ _ _ hk (by unfold U64; omega) (by unfold U64; omega) (by unfold U64; omega) (by unfold U64; omega) h
theorem wf_g1C {e : Ex} (h : WfE e) : ∀ r ∈ [(nameA, e)], WfE r.2 := fun r hr => by simp only [List.mem_singleton] at hr; subst hr; exact h
def altG : List Rl := [(nameA, ofN 6 [litE ⟨#[120]⟩, litE ⟨#[121]⟩])]
theorem alt_look : lookG altG ⟨#[121]⟩ = 0 := by decide +kernel
theorem alt_marks : (pk altG [121] true 10 (.rule 0) 0 (psM 3)).map (fun x => x.2.marks) = some [1, 2, 1] := by decide +kernel
theorem pk_same {g : List Rl} {s : List UInt8} {hk : Bool} {m m' : Nat} {j : PJob} {p : Nat} {σ : PS} {r r' : Option Nat × PS} (h : pk g s hk m j p σ = some r) (h' : pk g s hk m' j p σ = some r') : r = r' := by
  have h1 := pk_le h (Nat.le_add_right m m')
  have h2 := pk_le h' (Nat.le_add_left m' m)
  rw [h1] at h2
  injection h2
/-- the outcome of Run is what the first rule means -/
theorem run_sem {g : List Rl} (W : WellG g) {s : List UInt8} {r : Rl} (hr : g[0]? = some r) {m : Nat} {o : Option Nat} {σ1 : PS} (h : pk g s false m (.rule 0) 0 ps0 = some (o, σ1)) : Sem g s r.2 0 o := by
  obtain ⟨o', m', σ', h1, h2, _⟩ := rule_goes W s hr (Nat.zero_le _)
  have := pk_same h h2
  injection this with e1 e2
  rw [e1]
  exact h1
theorem right_nodes (e : Ex) : checkE e = 0 → ∀ x ∈ preL e, checkE x = 0 := by
  refine Ex.ind (P := fun e => checkE e = 0 → ∀ x ∈ preL e, checkE x = 0) ?_ e
  intro k a b c d t ks ih h x hx
  rw [preL, List.mem_cons] at hx
  rcases hx with rfl | hx
  · exact h
  · have hk : ∀ e ∈ ks, checkE e = 0 := fun e he => by
      have h1 := (parts_ok h).2.1 e he
      rw [sizeE_of] at h1
      by_cases h0 : checkE e = 0
      · exact h0
      · rw [if_neg h0] at h1
        injection h1 with _ h1
    have : ∀ l : List Ex, (∀ e ∈ l, e ∈ ks) → x ∈ preLs l → checkE x = 0 := by
      intro l
      induction l with
      | nil => intro _ h; rw [preLs] at h; cases h
      | cons e l ihl =>
        intro hm h
        rw [preLs, List.mem_append] at h
        rcases h with h | h
        · exact ih e (hm e (by simp)) (hk e (hm e (by simp))) x h
        · exact ihl (fun y hy => hm y (by simp [hy])) h
    exact this ks (fun e he => he) hx
theorem right_all {g : List Rl} (R : RightG g) : ∀ x ∈ preLs (bodies g), checkE x = 0 := fun x hx => by
  have : ∀ l : List Ex, (∀ e ∈ l, checkE e = 0) → x ∈ preLs l → checkE x = 0 := by
    intro l
    induction l with
    | nil => intro _ h; rw [preLs] at h; cases h
    | cons e l ihl =>
      intro hm h
      rw [preLs, List.mem_append] at h
      rcases h with h | h
      · exact right_nodes e (hm e (by simp)) x h
      · exact ihl (fun y hy => hm y (by simp [hy])) h
  exact this (bodies g) (fun e he => by
    unfold bodies at he
    obtain ⟨r, hr, rfl⟩ := List.mem_map.1 he
    exact R.body r hr) hx
theorem mark_at {w : World} {B j : Nat} {A : Option Addr} {l : List Nat} (h : Reads w B 1 A l.length (ints (natZ l))) (hj : j < l.length) : ∃ ad, A = some ad ∧ ad.block < B ∧ w.cell? (ad.add j) = some (.int .i64 (mkA l j)) := by
  obtain ⟨ad, z, e, hb, hz, hc⟩ := h.int_at hj
  refine ⟨ad, e, hb, ?_⟩
  unfold natZ at hz
  rw [List.getElem?_map, List.getElem?_eq_getElem hj] at hz
  injection hz with hz
  rw [hc]
  unfold mkA
  rw [List.getD_eq_getElem?_getD, List.getElem?_eq_getElem hj, ← hz]
  rfl
/-- of the first q kids one succeeded; all did -/
def SomeK (l : List Nat) (j : Nat) (ks : List Ex) (q : Nat) (b : Bool) : Prop := b = true ↔ ∃ q', q' < q ∧ mkA l (j + 1 + nodesAll (ks.take q')) % 2 = 1
def AllK (l : List Nat) (j : Nat) (ks : List Ex) (q : Nat) (b : Bool) : Prop := b = true ↔ ∀ q', q' < q → mkA l (j + 1 + nodesAll (ks.take q')) % 2 = 1
section
variable {l : List Nat} {j : Nat} {ks : List Ex} {q : Nat} {b : Bool}
theorem SomeK.zero : SomeK l j ks 0 false := ⟨fun h => (by cases h), fun ⟨q, h, _⟩ => by omega⟩
theorem AllK.zero : AllK l j ks 0 true := ⟨fun _ q h => by omega, fun _ => rfl⟩
theorem SomeK.yes (h : mkA l (j + 1 + nodesAll (ks.take q)) % 2 = 1) : SomeK l j ks (q + 1) true := ⟨fun _ => ⟨q, by omega, h⟩, fun _ => rfl⟩
theorem SomeK.no (h : mkA l (j + 1 + nodesAll (ks.take q)) % 2 = 0) (k : SomeK l j ks q b) : SomeK l j ks (q + 1) b := ⟨fun hb => by
    obtain ⟨q', h1, h2⟩ := k.1 hb
    exact ⟨q', by omega, h2⟩, fun ⟨q', h1, h2⟩ => k.2 (by
    by_cases hq : q' = q
    · subst hq; omega
    · exact ⟨q', by omega, h2⟩)⟩
theorem AllK.yes (h : mkA l (j + 1 + nodesAll (ks.take q)) % 2 = 1) (k : AllK l j ks q b) : AllK l j ks (q + 1) b := ⟨fun hb q' hq' => by
    by_cases hq : q' = q
    · subst hq; exact h
    · exact k.1 hb q' (by omega), fun hh => k.2 fun q' hq' => hh q' (by omega)⟩
theorem AllK.no (h : mkA l (j + 1 + nodesAll (ks.take q)) % 2 = 0) : AllK l j ks (q + 1) false := ⟨fun h => (by cases h), fun hh => by have := hh q (by omega); omega⟩
end
theorem bits_12 (m : Nat) (hm : m ≤ 3) : bits .and .i64 (m : Int) 1 = ((m % 2 : Nat) : Int) ∧ bits .and .i64 (m : Int) 2 = ((m / 2 % 2 * 2 : Nat) : Int) := by
  have h : ∀ m : Fin 4, bits .and .i64 ((m : Nat) : Int) 1 = (((m : Nat) % 2 : Nat) : Int) ∧ bits .and .i64 ((m : Nat) : Int) 2 = (((m : Nat) / 2 % 2 * 2 : Nat) : Int) := by decide +kernel
  exact h ⟨m, by omega⟩

set_option maxRecDepth 100000 in
set_option maxHeartbeats 1000000 in
theorem walk_CoverTells {g : List Rl} {A : Option Addr} {cp : Nat} {row : Nat → List Value} (s : ByteArray) (w : World) (hg : GrIs w w.heap.size g A cp row) (hwf : ∀ r ∈ g, WfE r.2) :
    Calls Try.prog 6 #[.agg #[.slice A g.length cp], .string s] w fun e w' => e = .returned (.bool true) ∧ Below w.heap.size w w' := by
  have hlit := lit_b
  have hof := of_b
  have hone := fun (W : World) (b : Nat) (hb : Blk W b 34 (exCells 3 0 0 0 0 ⟨#[120]⟩ none 0 0 ++ exCells 3 0 0 0 0 ⟨#[121]⟩ none 0 0).toArray) =>
    one_b (ofN 6 [litE ⟨#[120]⟩, litE ⟨#[121]⟩]) _ W (ex_two (litE_is W _ (by decide)) (litE_is W _ (by decide)) hb (by simp) 6)
  have hca : ∀ (W : World) (V : Option Addr) (row : Nat → List Value), GrIs W W.heap.size altG V 1 row → Calls Try.prog 30 #[.agg #[.slice V 1 1], .string ⟨#[121]⟩] W fun e w' => ∃ V c, e = .returned (.tuple #[.slice V 3 c, .int .i64 0]) ∧ Reads w' w'.heap.size 1 V 3 (ints [1, 2, 1]) ∧ Below W.heap.size W w' := fun W V row hG => by
    have h := cover_any hG (wf_g1C (wf_ofC (by unfold I64; omega) (fun e he => by simp only [List.mem_cons, List.not_mem_nil, or_false] at he; rcases he with rfl | rfl <;> exact wf_litC _))) ⟨#[121]⟩
    refine Calls.mono (show Calls Try.prog 30 #[.agg #[.slice V 1 1], .string ⟨#[121]⟩] W (CoverQ altG ⟨#[121]⟩ W) from h) ?_
    rintro e w' ⟨V', c, l, rfl, hr, -, -, hb, -, -, hy⟩
    obtain ⟨r, o, m, σ1, -, -, hpk, hl, -⟩ := hy alt_look
    have hm := alt_marks
    obtain ⟨⟨o2, σ2⟩, h2, h3⟩ := Option.map_eq_some_iff.1 hm
    have hs := pk_same hpk h2
    injection hs with _ hs
    subst hs
    have hl3 : l = [1, 2, 1] := by rw [hl]; exact h3
    subst hl3
    exact ⟨V', c, by rw [alt_look]; rfl, hr, hb⟩
  have hcv := fun W (hW : Below w.heap.size w W) => cover_any ((hg.on hW).more hW.size) hwf s
  have hru := fun W (hW : Below w.heap.size w W) => run_any ((hg.on hW).more hW.size) hwf s
  have hal := fun W (hW : Below w.heap.size w W) (R : RightG g) => all_nodes ((hg.on hW).more hW.size) R
  unfold exCells at hlit hof hone
  simp only [List.cons_append, List.nil_append] at hone
  have HL := Lib.hid hlit
  have HF := Lib.hid hof
  have HO := Lib.hid hone
  have HCA := Lib.hid hca
  have HCV := Lib.hid hcv
  have HRU := Lib.hid hru
  have HAL := Lib.hid hal
  have HG := Lib.hid hg
  clear hlit hof hone hca hcv hru hal hg hwf
  go_enter Try.func6, Try.ntmps6
  go_wp2_with fail
  refine (HL.out ⟨#[120]⟩ _).mono ?_
  rintro e w1 ⟨rfl, hb1⟩
  have hgx : Blk w1 w.heap.size 24 #[.slice A g.length cp] := (blk_at rfl).below hb1 (by simp)
  have hw1 : Below w.heap.size w w1 := ((Below.refl _ w).alloc (Nat.le_refl _) _).trans (hb1.mono (by simp))
  clear hb1
  go_wp2_with fail
  refine (HL.out ⟨#[121]⟩ _).mono ?_
  rintro e w2 ⟨rfl, hb2⟩
  replace hgx := hgx.below hb2 hgx.lt
  replace hw1 := hw1.trans (hb2.mono hw1.size)
  have hgl := hgx.lt
  have hz2 := hw1.size
  clear hb2
  go_wp2_with fail
  refine (HF.out _ _ _ _ _).mono ?_
  rintro e w3 ⟨rfl, hb3⟩
  have hk3 := (Blk.new w2 34 #[.int .i64 3, .int .u64 0, .int .u64 0, .int .u64 0, .int .u64 0, .string ⟨#[120]⟩, .slice none 0 0, .int .i64 3, .int .u64 0, .int .u64 0, .int .u64 0, .int .u64 0, .string ⟨#[121]⟩, .slice none 0 0]).below hb3 (by simp)
  have hgx3 := (hgx.alloc (.cells #[.int .i64 3, .int .u64 0, .int .u64 0, .int .u64 0, .int .u64 0, .string ⟨#[120]⟩, .slice none 0 0, .int .i64 3, .int .u64 0, .int .u64 0, .int .u64 0, .int .u64 0, .string ⟨#[121]⟩, .slice none 0 0] 34)).below hb3 (by simp; omega)
  have hw3 : Below w.heap.size w w3 := (hw1.alloc hz2 _).trans (hb3.mono (by simp; omega))
  clear hb3 hgx hw1
  go_wp2_with fail
  refine (HO.out _ _ hk3).mono ?_
  rintro e w4 ⟨b, rfl, hG, hb4⟩
  have hgx4 := hgx3.below hb4 hgx3.lt
  have hw4 := hw3.trans (hb4.mono hw3.size)
  have HGA := Lib.hid hG
  clear hb4 hgx3 hw3 hk3 hG
  go_wp2_with fail
  refine (HCA.out _ _ _ HGA.out).mono ?_
  rintro e w5 ⟨V5, c5, rfl, hr5, hb5⟩
  have hgx5 := hgx4.below hb5 hgx4.lt
  have hw5 := hw4.trans (hb5.mono hw4.size)
  have heq := fun (W : World) (hW : Below w5.heap.size w5 W) (b : Nat) (hb : Blk W b 3 #[.int .i64 1, .int .i64 2, .int .i64 1]) => equal_any V5 (some ⟨b, 0, none⟩) 3 c5 3 3 [1, 2, 1] [1, 2, 1] w5.heap.size W.heap.size W (hr5.below hW) (reads_block hb rfl rfl hb.lt) (by unfold Small; omega)
  simp only [decide_true] at heq
  have HEQ := Lib.hid heq
  have hz5 := hw5.size
  clear hb5 hr5 heq hw4 hgx4 HGA
  go_wp2_with fail
  refine (HEQ.out _ ((Below.refl _ _).alloc (Nat.le_refl _) _) _ (blk_at rfl)).mono ?_
  rintro e w6 ⟨rfl, d, rfl⟩
  have hw6 : Below w.heap.size w ((w5.alloc (.cells #[.int .i64 1, .int .i64 2, .int .i64 1] 3)).drewN d) := (by repeat (first | exact Below.refl _ _ | assumption | refine Below.drew ?_ | refine below_drewN ?_ _ | refine Below.alloc ?_ (by first | omega | (simp; omega) | simp) _ | refine Below.setCell ?_ (by first | omega | (simp; omega) | simp) _))
  have hgx6 := (hgx5.alloc (.cells #[.int .i64 1, .int .i64 2, .int .i64 1] 3)).drewN d
  generalize ((w5.alloc (.cells #[.int .i64 1, .int .i64 2, .int .i64 1] 3)).drewN d) = w6 at hw6 hgx6 ⊢
  have g6 : w6.cell? ⟨w.heap.size, 0, none⟩ = some (.slice A g.length cp) := hgx6.cell 0
  clear HEQ hw5 hz5 hgx5
  go_wp2_with fail
  refine (HCV.out _ hw6).mono ?_
  rintro e w7 ⟨V7, c7, l, rfl, hr7, hlc, hcm, hb7, -, hno, hyes⟩
  have hgx7 := hgx6.below hb7 hgx6.lt
  have hw7 := hw6.trans (hb7.mono hw6.size)
  have g7 : w7.cell? ⟨w.heap.size, 0, none⟩ = some (.slice A g.length cp) := hgx7.cell 0
  clear hb7 hw6 hgx6 g6 HCV
  by_cases hl0 : lookG g s = 0
  · obtain ⟨W, -⟩ := look_zero hl0
    obtain ⟨r, o, m, σ1, hr, hsem, -, -, hcov, hok1, hok2⟩ := hyes hl0
    rw [hl0]
    have HR7 := Lib.hid hr7
    have HCOV := Lib.hid hcov
    have hll := hcov.len
    have hl120 : l.length ≤ 120 := by rw [hll, ← nodesC_len]; exact W.right.nodes
    have hpos : 0 < l.length := by
      rw [hll, preLs_len]
      have := nodesAll_take (ks := bodies g) (j := 0) (y := r.2) (by unfold bodies; rw [List.getElem?_map, hr]; rfl)
      have h1 : 1 ≤ nodes r.2 := by rw [nodes_eq]; omega
      omega
    have HW := Lib.hid W
    have HLL := Lib.hid hll
    have hrs := fun (o' : Option Nat) (h : ∃ m σ1, pk g s.data.toList false m (.rule 0) 0 ps0 = some (o', σ1)) => (by
      obtain ⟨m, σ1, h⟩ := h
      exact Sem.eq hsem (run_sem W hr h) : o = o')
    have HRS := Lib.hid hrs
    have HK1 := Lib.hid hok1
    have HK2 := Lib.hid hok2
    have HL0 := Lib.hid hl0
    clear hno hyes hl0 W hsem hcov hr7 hr hll hrs hok1 hok2
    go_wp2_with fail
    refine (HRU.out _ hw7).mono ?_
    rintro e w8 ⟨hb8, hq⟩
    have hgx8 := hgx7.below hb8 hgx7.lt
    have hw8 := hw7.trans (hb8.mono hw7.size)
    have HR8 := Lib.hid (HR7.out.below hb8)
    have g8 : w8.cell? ⟨w.heap.size, 0, none⟩ = some (.slice A g.length cp) := hgx8.cell 0
    have h78 := hb8.size
    rcases hq with ⟨hc, _⟩ | ⟨-, o', σ', V8, c8, l8, ⟨m', hpk'⟩, -, -, -, rfl, -⟩
    · exact absurd HL0.out hc
    obtain rfl := HRS.out o' ⟨m', σ', hpk'⟩
    clear hpk' hb8 HRU HRS hgx7 hw7 g7 HR7
    obtain ⟨n8, hn8⟩ : ∃ n : Int, outV o = .agg #[.bool o.isSome, .int .i64 n] := by cases o <;> exact ⟨_, rfl⟩
    rw [hn8]
    have hgl8 := hgx8.lt
    clear hn8
    go_wp2_with fail
    refine (HAL.out _ (by repeat (first | exact Below.refl _ _ | assumption | refine Below.drew ?_ | refine below_drewN ?_ _ | refine Below.alloc ?_ (by first | omega | (simp; omega) | simp) _ | refine Below.setCell ?_ (by first | omega | (simp; omega) | simp) _)) HW.out.right).mono ?_
    rintro e w9 ⟨V9, c9, ns, rfl, hns, hnok, hown9, hb9⟩
    have hob := (Blk.new w8 49 #[.bool o.isSome, .int .i64 n8]).below hb9 (by simp)
    have h8a : Below w.heap.size w (w8.alloc (.cells #[.bool o.isSome, .int .i64 n8] 49)) := (by repeat (first | exact Below.refl _ _ | assumption | refine Below.drew ?_ | refine below_drewN ?_ _ | refine Below.alloc ?_ (by first | omega | (simp; omega) | simp) _ | refine Below.setCell ?_ (by first | omega | (simp; omega) | simp) _))
    have hw9 := h8a.trans (hb9.mono h8a.size)
    have h79 : w7.heap.size ≤ w8.heap.size := h78
    have hr9 := (HR8.out.alloc (h78) (.cells #[.bool o.isSome, .int .i64 n8] 49)).below (hb9.mono (by simp; omega))
    have hnsl : ns.length = l.length := by rw [HLL.out, ← hns, List.length_map]
    have hrn : Reads w9 w9.heap.size 7 V9 ns.length (exnF ns) := Reads.of_own hown9
    have hz9 := hw9.size
    have h89 : w7.heap.size ≤ w9.heap.size := by have := hob.lt; omega
    obtain ⟨ad, hV7, hab, hc0⟩ := mark_at hr9 hpos
    have hc0 : w9.cell? ad = some (.int .i64 (mkA l 0)) := hc0
    have o0 := hob.cell 0
    have h03 := HCOV.out.le 0
    obtain ⟨hb1, hb2⟩ := bits_12 (mkA l 0) h03
    have hneq : ((l.length : Int) != (ns.length : Int)) = false := by rw [bne_eq_false_iff_eq]; omega
    have hposi : (0 : Int) < (l.length : Int) := by omega
    have hns120 : ns.length ≤ 120 := by omega
    have hok1 := HK1.out
    have hok2 := HK2.out
    have HNSL := Lib.hid hnsl
    have HRN := Lib.hid hrn
    have HR9 := Lib.hid hr9
    have HNS := Lib.hid hns
    obtain ⟨wX, hnokX, hb9X⟩ : ∃ wX : World, ExnOk wX wX.heap.size ns ∧ Below wX.heap.size wX w9 := ⟨_, hnok, hb9⟩
    have HNOK := Lib.hid hnokX
    have HBX9 := Lib.hid hb9X
    clear hnokX hb9X
    have HW9 := Lib.hid hw9
    clear hb9 hob h8a hr9 hown9 hrn hnsl hgx8 hw8 g8 HR8 HAL HK1 HK2 hns hnok hw9 h78 h79
    subst hV7
    generalize hos : o.isSome = ob at o0 hok1 hok2
    clear hos
    cases ob
    case' false =>
      have h0 := hok2 rfl
      have q2 : bits .and .i64 ((mkA l 0 : Nat) : Int) 2 = 2 := by rw [hb2, h0]; rfl
    case' true =>
      have h0 := hok1 rfl
      have q1 : bits .and .i64 ((mkA l 0 : Nat) : Int) 1 = 1 := by rw [hb1, h0]; rfl
    all_goals
      clear hb1 hb2 h0 hok1 hok2 h03
      go_wp2
      go_loopw [12, 13, 14, 15, 16, 18, 90] (fun _ _ _ _ _ _ i wr => ∃ j : Nat, j ≤ ns.length ∧ i = .int .i64 j ∧ Below w9.heap.size w9 wr) (fun _ _ _ _ _ _ i _ => ns.length - (intOf i).toNat)
      case atStart => exact ⟨0, by omega, rfl, Below.refl _ _⟩
      case round =>
        clear hc0 o0
        obtain ⟨j, hj, rfl, hwr⟩ := hrel
        have hwz := hwr.size
        by_cases hjn : j < ns.length
        · obtain ⟨nad, k, a, b', c, d', t, ks, A', cp', rfl, hnab, hx, hE, ⟨s0, s1, s2, s3, s4, s5, s6⟩⟩ := exn_at (HRN.out.below hwr) HNOK.out rfl hjn
          have hLj : (preLs (bodies g))[j]? = some (.mk k a b' c d' t ks) := by rw [← HNS.out, List.getElem?_map, hx]; rfl
          have hrt := right_all HW.out.right _ (List.mem_of_getElem? hLj)
          have h60 := nodes_le hrt
          rw [nodes_eq] at h60
          have hkr : ∀ x ∈ ks, checkE x = 0 := fun x hx => right_all HW.out.right _ (by
            obtain ⟨q, hq⟩ := List.mem_iff_getElem?.1 hx
            exact List.mem_of_getElem? (seg_kid (seg_any hLj) hq).at_)
          have hkb : ∀ q y, ks[q]? = some y → j + 1 + nodesAll (ks.take q) < l.length := fun q y hq => by
            have h1 := (seg_kid (seg_any hLj) hq).1
            have h2 := nodes_eq y
            rw [← HLL.out] at h1
            simp only [kidsX] at h1
            omega
          have hup : ∀ q, q < ks.length → mkA l (j + 1 + nodesAll (ks.take q)) ≠ 0 → mkA l j ≠ 0 := fun q hq => HCOV.out.up j _ q _ ⟨hLj, hq, rfl⟩ (fun h => h)
          have hsq : k = 5 → mkA l j % 2 = 1 → ∀ q, q < ks.length → mkA l (j + 1 + nodesAll (ks.take q)) % 2 = 1 := fun h5 h1 => HCOV.out.seq j _ hLj h5 h1
          have hat : k = 6 → mkA l j % 2 = 1 → ∃ q, q < ks.length ∧ mkA l (j + 1 + nodesAll (ks.take q)) % 2 = 1 := fun h6 h1 => HCOV.out.alt j _ hLj h6 h1
          have hk60 : ks.length ≤ 60 := by
            have : ∀ l : List Ex, l.length ≤ nodesAll l := by
              intro l
              induction l with
              | nil => exact Nat.zero_le _
              | cons e l ih => rw [List.length_cons, nodesAll, nodes_eq]; omega
            have := this ks
            simp only [kidsX] at h60
            omega
          have hnall : nodesAll ks ≤ 60 := by simp only [kidsX] at h60; omega
          have HKR := Lib.hid hkr
          have HKB := Lib.hid hkb
          have HUP := Lib.hid hup
          have HSQ := Lib.hid hsq
          have HAT := Lib.hid hat
          have HE := Lib.hid hE
          have hnl : nad.block < wr.heap.size := by omega
          clear hx hLj hrt h60 hkr hkb hup hsq hat hE
          go_upto_region 14 with fail
          have hbx : Blk (wr.alloc (.cells #[.int .i64 k, .int .u64 a, .int .u64 b', .int .u64 c, .int .u64 d', .string t, .slice A' ks.length cp'] 34)) wr.heap.size 34 #[.int .i64 k, .int .u64 a, .int .u64 b', .int .u64 c, .int .u64 d', .string t, .slice A' ks.length cp'] := blk_at rfl
          have hwk : Below w9.heap.size w9 (wr.alloc (.cells #[.int .i64 k, .int .u64 a, .int .u64 b', .int .u64 c, .int .u64 d', .string t, .slice A' ks.length cp'] 34)) := hwr.alloc hwz _
          generalize (wr.alloc (.cells #[.int .i64 k, .int .u64 a, .int .u64 b', .int .u64 c, .int .u64 d', .string t, .slice A' ks.length cp'] 34)) = wk at hbx hwk ⊢
          generalize wr.heap.size = xb at hbx ⊢
          clear s0 s1 s2 s3 s4 s5 s6 hwr hwz hnl
          have hwkz := hwk.size
          have hbxl := hbx.lt
          have x0 : wk.cell? ⟨xb, 0, none⟩ = some (.int .i64 k) := hbx.cell 0; have x1 : wk.cell? ⟨xb, 1, none⟩ = some (.int .u64 a) := hbx.cell 1; have x2 : wk.cell? ⟨xb, 2, none⟩ = some (.int .u64 b') := hbx.cell 2; have x3 : wk.cell? ⟨xb, 3, none⟩ = some (.int .u64 c) := hbx.cell 3; have x4 : wk.cell? ⟨xb, 4, none⟩ = some (.int .u64 d') := hbx.cell 4; have x5 : wk.cell? ⟨xb, 5, none⟩ = some (.string t) := hbx.cell 5; have x6 : wk.cell? ⟨xb, 6, none⟩ = some (.slice A' ks.length cp') := hbx.cell 6
          have HBX := Lib.hid hbx
          clear hbx
          go_wp2
          go_loopw [14, 15, 16, 18, 100] (fun vk vs va _ i wi => ∃ (q kn : Nat) (b1 b2 : Bool), q ≤ ks.length ∧ i = .int .i64 q ∧ vk = .int .i64 kn ∧ vs = .bool b1 ∧ va = .bool b2 ∧ kn ≤ 200 ∧ Hid (kn = j + 1 + nodesAll (ks.take q)) ∧ Hid (SomeK l j ks q b1) ∧ Hid (AllK l j ks q b2) ∧ Below wk.heap.size wk wi) (fun _ _ _ _ i _ => ks.length - (intOf i).toNat)
          case atStart => exact ⟨0, j + 1, false, true, by omega, rfl, by go_num, rfl, rfl, by omega, by show _ = _; rw [List.take_zero, nodesAll], SomeK.zero, AllK.zero, Below.refl _ _⟩
          case round =>
            clear x0 x1 x2 x3 x4 x5 x6
            obtain ⟨q, kn, b1, b2, hq, rfl, rfl, rfl, rfl, hkn, HKN, HS, HA, hwi⟩ := hrel
            have hwiz := hwi.size
            have hw9i := hwk.trans (hwi.mono hwkz)
            have hbxi := HBX.out.below hwi hbxl
            have x6 : wr.cell? ⟨xb, 6, none⟩ = some (.slice A' ks.length cp') := hbxi.cell 6
            have x0 : wr.cell? ⟨xb, 0, none⟩ = some (.int .i64 k) := hbxi.cell 0
            have hjl : j < l.length := by have := HNSL.out; omega
            obtain ⟨ad2, e2, hab2, hcj⟩ := mark_at (HR9.out.below (hw9i.mono h89)) hjl
            injection e2 with e2
            subst e2
            have hj3 := HCOV.out.le j
            obtain ⟨hbj, -⟩ := bits_12 (mkA l j) hj3
            have hadl : ad.block < wr.heap.size := by omega
            have hji : (j : Int) < (l.length : Int) := by omega
            by_cases hqn : q < ks.length
            · have hwwi : Below wX.heap.size wX wr := HBX9.out.trans (hw9i.mono HBX9.out.size)
              obtain ⟨kad, k2, a2, b3, c2, d2, t2, ks2, A2, cp2, rfl, hkab, hkj, hE2, ⟨s0, s1, s2, s3, s4, s5, s6⟩⟩ := (HE.out.on hwwi).kid hqn
              have hknl := HKB.out q _ hkj
              rw [← HKN.out] at hknl
              have hk3 := HCOV.out.le kn
              obtain ⟨hbk, -⟩ := bits_12 (mkA l kn) hk3
              have hu := HUP.out q hqn
              rw [← HKN.out] at hu
              have HSN := Lib.hid (fun (h : mkA l kn % 2 = 0) => (by rw [HKN.out] at h; exact h : mkA l (j + 1 + nodesAll (ks.take q)) % 2 = 0))
              have HSY := Lib.hid (fun (h : mkA l kn % 2 = 1) => (by rw [HKN.out] at h; exact h : mkA l (j + 1 + nodesAll (ks.take q)) % 2 = 1))
              have hnd := fun W (hW : Below wr.heap.size wr W) => nodesB_any (HKR.out _ (List.mem_of_getElem? hkj)) (B := wX.heap.size) (w := W) (by have := hW.size; have := hwwi.size; omega) (hE2.on (hW.mono hwwi.size))
              have hnt := nodesAll_take hkj
              have hkt : Hid (kn + nodes (.mk k2 a2 b3 c2 d2 t2 ks2) = j + 1 + nodesAll (ks.take (q + 1))) := by
                have : nodesAll (ks.take (q + 1)) = nodesAll (ks.take q) + nodes (.mk k2 a2 b3 c2 d2 t2 ks2) := by
                  rw [take_succ_of hkj]
                  have h1 := congrArg List.length (preLs_app (ks.take q) [.mk k2 a2 b3 c2 d2 t2 ks2])
                  rw [List.length_append, preLs_len, preLs_len, preLs_len, nodesAll, nodesAll] at h1
                  omega
                show _ = _
                rw [this, HKN.out]
                omega
              have hnn : nodes (.mk k2 a2 b3 c2 d2 t2 ks2) ≤ 60 := by omega
              have hk200 : kn + nodes (.mk k2 a2 b3 c2 d2 t2 ks2) ≤ 200 := by
                have := hkt.out
                have h2 : nodesAll (ks.take (q + 1)) ≤ nodesAll ks := by
                  rw [take_succ_of hkj]
                  have h1 := congrArg List.length (preLs_app (ks.take q) [.mk k2 a2 b3 c2 d2 t2 ks2])
                  rw [List.length_append, preLs_len, preLs_len, preLs_len, nodesAll, nodesAll] at h1
                  omega
                omega
              unfold exCells at hnd
              have hq2 : ∀ l5 : List Nde, l5.map ndK = preD (.mk k2 a2 b3 c2 d2 t2 ks2) 1 → l5.length = nodes (.mk k2 a2 b3 c2 d2 t2 ks2) := fun l5 h => by
                have := congrArg List.length h
                rwa [List.length_map, preD_len] at this
              have HND := Lib.hid hnd
              have HQ2 := Lib.hid hq2
              generalize nodes (.mk k2 a2 b3 c2 d2 t2 ks2) = nk at hkt hnn hk200 HQ2
              have hkadl : kad.block < wr.heap.size := by have := hwwi.size; omega
              clear hcj hadl
              go_upto_region 19 with fail
              have hbk2 : Blk (wr.alloc (.cells #[.int .i64 k2, .int .u64 a2, .int .u64 b3, .int .u64 c2, .int .u64 d2, .string t2, .slice A2 ks2.length cp2] 34)) wr.heap.size 34 #[.int .i64 k2, .int .u64 a2, .int .u64 b3, .int .u64 c2, .int .u64 d2, .string t2, .slice A2 ks2.length cp2] := blk_at rfl
              have hwm : Below wk.heap.size wk (wr.alloc (.cells #[.int .i64 k2, .int .u64 a2, .int .u64 b3, .int .u64 c2, .int .u64 d2, .string t2, .slice A2 ks2.length cp2] 34)) := hwi.alloc hwiz _
              have hwrm : Below wr.heap.size wr (wr.alloc (.cells #[.int .i64 k2, .int .u64 a2, .int .u64 b3, .int .u64 c2, .int .u64 d2, .string t2, .slice A2 ks2.length cp2] 34)) := (Below.refl _ _).alloc (Nat.le_refl _) _
              have HND := Lib.hid (HND.out _ hwrm)
              generalize (wr.alloc (.cells #[.int .i64 k2, .int .u64 a2, .int .u64 b3, .int .u64 c2, .int .u64 d2, .string t2, .slice A2 ks2.length cp2] 34)) = wm at hbk2 hwm HND ⊢
              generalize wr.heap.size = kb at hbk2 ⊢
              have hw9m := hwk.trans (hwm.mono hwkz)
              obtain ⟨ad3, e3, -, hck⟩ := mark_at (HR9.out.below (hw9m.mono h89)) hknl
              injection e3 with e3
              subst e3
              obtain ⟨ad4, e4, -, hcj⟩ := mark_at (HR9.out.below (hw9m.mono h89)) hjl
              injection e4 with e4
              subst e4
              have y0 : wm.cell? ⟨kb, 0, none⟩ = some (.int .i64 k2) := hbk2.cell 0; have y1 : wm.cell? ⟨kb, 1, none⟩ = some (.int .u64 a2) := hbk2.cell 1; have y2 : wm.cell? ⟨kb, 2, none⟩ = some (.int .u64 b3) := hbk2.cell 2; have y3 : wm.cell? ⟨kb, 3, none⟩ = some (.int .u64 c2) := hbk2.cell 3; have y4 : wm.cell? ⟨kb, 4, none⟩ = some (.int .u64 d2) := hbk2.cell 4; have y5 : wm.cell? ⟨kb, 5, none⟩ = some (.string t2) := hbk2.cell 5; have y6 : wm.cell? ⟨kb, 6, none⟩ = some (.slice A2 ks2.length cp2) := hbk2.cell 6
              have hwmz := hwm.size
              clear s0 s1 s2 s3 s4 s5 s6 hbk2 hwrm hw9m hw9i hwi x6 x0 hkadl hbxi hwwi hkab
              have hkni : (kn : Int) < (l.length : Int) := by omega
              have hqi : (q : Int) < (ks.length : Int) := by omega
              have hmj0 : mkA l kn ≠ 0 → ((mkA l j : Nat) : Int) ≠ 0 := fun h => by have := hu h; omega
              clear hnd hq2 hE2 hkj hnt hu hbj
              rcases (by omega : mkA l kn % 2 = 1 ∨ (mkA l kn % 2 = 0 ∧ mkA l kn ≠ 0) ∨ mkA l kn = 0) with hm | hm | hm
              · have qb : bits .and .i64 ((mkA l kn : Nat) : Int) 1 = 1 := by rw [hbk, hm]; rfl
                have qg : (0 : Int) < ((mkA l kn : Nat) : Int) := by omega
                have qj : (((mkA l j : Nat) : Int) == 0) = false := by rw [beq_eq_false_iff_ne]; exact hmj0 (by omega)
                have HS1 : Hid (SomeK l j ks (q + 1) true) := SomeK.yes (HSY.out hm)
                have HA1 : Hid (AllK l j ks (q + 1) b2) := HA.out.yes (HSY.out hm)
                clear hbk hm hmj0 HS HA HSN HSY
                generalize mkA l kn = mk at qb qg hck hk3
                cases b1 <;> cases b2
                all_goals
                  go_wp2_with fail
                  refine HND.out.mono ?_
                  rintro e wB ⟨hbB, VB, cB, lB, rfl, hmB, -, -⟩
                  have hlB := HQ2.out lB hmB
                  rw [hlB]
                  have hwB : Below wk.heap.size wk wB := hwm.trans (hbB.mono hwmz)
                  clear hbB hmB hlB HND
                  go_wp2
                  go_roundw
                  case rel => exact ⟨q + 1, kn + nk, _, _, by omega, by go_num, by go_num, rfl, rfl, hk200, hkt, HS1, HA1, hwB⟩
                  case measure => simp [intOf]; omega
              · have qb : bits .and .i64 ((mkA l kn : Nat) : Int) 1 = 0 := by rw [hbk, hm.1]; rfl
                have qg : (0 : Int) < ((mkA l kn : Nat) : Int) := by omega
                have qj : (((mkA l j : Nat) : Int) == 0) = false := by rw [beq_eq_false_iff_ne]; exact hmj0 hm.2
                have HS1 : Hid (SomeK l j ks (q + 1) b1) := HS.out.no (HSN.out hm.1)
                have HA1 : Hid (AllK l j ks (q + 1) false) := AllK.no (HSN.out hm.1)
                clear hbk hm hmj0 HS HA HSN HSY
                generalize mkA l kn = mk at qb qg hck hk3
                cases b1 <;> cases b2
                all_goals
                  go_wp2_with fail
                  refine HND.out.mono ?_
                  rintro e wB ⟨hbB, VB, cB, lB, rfl, hmB, -, -⟩
                  have hlB := HQ2.out lB hmB
                  rw [hlB]
                  have hwB : Below wk.heap.size wk wB := hwm.trans (hbB.mono hwmz)
                  clear hbB hmB hlB HND
                  go_wp2
                  go_roundw
                  case rel => exact ⟨q + 1, kn + nk, _, _, by omega, by go_num, by go_num, rfl, rfl, hk200, hkt, HS1, HA1, hwB⟩
                  case measure => simp [intOf]; omega
              · have HS1 : Hid (SomeK l j ks (q + 1) b1) := HS.out.no (HSN.out (by omega))
                have HA1 : Hid (AllK l j ks (q + 1) false) := AllK.no (HSN.out (by omega))
                have qb : bits .and .i64 ((mkA l kn : Nat) : Int) 1 = 0 := by rw [hbk, hm]; rfl
                have qg : ((0 : Int) < ((mkA l kn : Nat) : Int)) = False := by simp; omega
                have qg2 : (0 < mkA l kn) = False := by simp; omega
                clear hbk hm hmj0 HS HA HSN HSY
                generalize mkA l kn = mk at qb qg qg2 hck hk3
                cases b1 <;> cases b2
                all_goals
                  go_wp2_with fail
                  refine HND.out.mono ?_
                  rintro e wB ⟨hbB, VB, cB, lB, rfl, hmB, -, -⟩
                  have hlB := HQ2.out lB hmB
                  rw [hlB]
                  have hwB : Below wk.heap.size wk wB := hwm.trans (hbB.mono hwmz)
                  clear hbB hmB hlB HND
                  go_wp2
                  go_roundw
                  case rel => exact ⟨q + 1, kn + nk, _, _, by omega, by go_num, by go_num, rfl, rfl, hk200, hkt, HS1, HA1, hwB⟩
                  case measure => simp [intOf]; omega
            · obtain rfl : q = ks.length := by omega
              have hbkn := HS.out
              have hs2 := HA.out
              have hw9j := hw9i
              have hxl := hbxi.lt
              have hwwr := hwk.trans (hwi.mono hwkz)
              have HWW := Lib.hid hwwr
              rcases Nat.mod_two_eq_zero_or_one (mkA l j) with hm | hm
              · have qb : bits .and .i64 ((mkA l j : Nat) : Int) 1 = 0 := by rw [hbj, hm]; rfl
                clear hbj hm hbkn hs2 HS HA
                go_wp2
                go_roundw
                case rel => exact ⟨j + 1, by omega, by go_num, HWW.out⟩
                case measure => simp [intOf]; omega
              · have qb : bits .and .i64 ((mkA l j : Nat) : Int) 1 = 1 := by rw [hbj, hm]; rfl
                by_cases h5 : k = 5
                · obtain rfl : b2 = true := hs2.2 (HSQ.out h5 hm)
                  have k5 : (k == 5) = true := by rw [beq_iff_eq]; exact h5
                  have k6 : (k == 6) = false := by rw [beq_eq_false_iff_ne]; omega
                  clear hbj hm hbkn hs2 HS HA h5
                  cases b1 <;>
                  · go_wp2
                    go_roundw
                    case rel => exact ⟨j + 1, by omega, by go_num, HWW.out⟩
                    case measure => simp [intOf]; omega
                · have k5 : (k == 5) = false := by rw [beq_eq_false_iff_ne]; exact h5
                  by_cases h6 : k = 6
                  · obtain rfl : b1 = true := hbkn.2 (HAT.out h6 hm)
                    have k6 : (k == 6) = true := by rw [beq_iff_eq]; exact h6
                    clear hbj hm hbkn hs2 HS HA h5 h6
                    cases b2 <;>
                    · go_wp2
                      go_roundw
                      case rel => exact ⟨j + 1, by omega, by go_num, HWW.out⟩
                      case measure => simp [intOf]; omega
                  · have k6 : (k == 6) = false := by rw [beq_eq_false_iff_ne]; exact h6
                    clear hbj hm hbkn hs2 HS HA h5 h6
                    cases b1 <;> cases b2 <;>
                    · go_wp2
                      go_roundw
                      case rel => exact ⟨j + 1, by omega, by go_num, HWW.out⟩
                      case measure => simp [intOf]; omega
        · obtain rfl : j = ns.length := by omega
          go_wp2
          go_ret
          exact ⟨rfl, HW9.out.trans (hwr.mono HW9.out.size)⟩
  · obtain rfl := hno hl0
    have hxb : (lookG g s != 0) = true := by rw [bne_iff_ne]; exact hl0
    generalize lookG g s = x at hxb ⊢
    clear hl0 hno hyes hr7 HRU HAL
    go_wp2
    go_ret
    exact ⟨rfl, hw7⟩
end Go.Proofs.Ytphfckihdhmhpaa
