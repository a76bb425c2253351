/- For TopCover: chafftop.begun; rows of marks while they are put together; plain facts. -/
import Derived.Test.YtphfckihdhmhpaaCoW
import Derived.Test.YtphfckihdhmhpaaGdB
import Derived.Test.YtphfckihdhmhpaaXD
namespace Go.Proofs.Ytphfckihdhmhpaa
open Go.RowKit Go.Maps

def xG1 : List Rl := [(nameA, litE ⟨#[120]⟩)]
theorem x1_look : lookG xG1 ⟨#[120]⟩ = 0 := by decide +kernel
theorem x1_ev : ev xG1 [120] 3 (litE ⟨#[120]⟩) 0 = some (some 1) := by decide +kernel
theorem x1_acc : accG xG1 ⟨#[120]⟩ = true := by
  unfold accG
  rw [x1_look, outG_is (r := (nameA, litE ⟨#[120]⟩)) rfl ⟨3, x1_ev⟩]
  rfl
theorem wf_litT (t : ByteArray) : WfE (litE t) := .mk _ _ _ _ _ _ _ (by unfold I64; omega) (by unfold U64; omega) (by unfold U64; omega) (by unfold U64; omega) (by unfold U64; omega) (fun e he => by cases he)
set_option maxRecDepth 100000 in
theorem topx1_any (w : World) : Calls Try.prog 62 #[] w fun e' w' => ∃ b, e' = .returned (.agg #[.slice (some ⟨b, 0, none⟩) 1 1]) ∧ GrIs w' w'.heap.size xG1 (some ⟨b, 0, none⟩) 1 (fun _ => exCells 3 0 0 0 0 ⟨#[120]⟩ none 0 0) ∧ Below w.heap.size w w' := by
  go_enter Try.func62, Try.ntmps62
  go_wp2
  refine bodyPost_ret (v := .agg #[.slice (some ⟨w.heap.size + 1, 0, none⟩) 1 1]) (by simp [results, Try.results62, go_sem]) rfl ⟨w.heap.size + 1, rfl, gr_one (cs := #[.string nameA, .int .i64 3, .int .u64 0, .int .u64 0, .int .u64 0, .int .u64 0, .string ⟨#[120]⟩, .slice none 0 0]) (by decide) (litE_is _ ⟨#[120]⟩ (by decide)) (blk_at (by simp)) rfl, (by repeat (first | exact Below.refl _ _ | assumption | refine Below.drew ?_ | refine below_drewN ?_ _ | refine Below.alloc ?_ (by first | omega | (simp; omega) | simp) _ | refine Below.setCell ?_ (by first | omega | (simp; omega) | simp) _))⟩
set_option maxRecDepth 100000 in
theorem begun1_any (w : World) : Calls Try.prog 23 #[] w fun e w' => e = .returned (.bool true) ∧ Below w.heap.size w w' := by
  have hx := fun W => topx1_any W
  have HX := Lib.hid hx
  clear hx
  go_enter Try.func23, Try.ntmps23
  go_wp2_with fail
  refine (HX.out _).mono ?_
  rintro e w1 ⟨b, rfl, hG, hb1⟩
  have hac := acc_any hG (fun r hr => by unfold xG1 at hr; rw [List.mem_singleton] at hr; subst hr; exact wf_litT _) ⟨#[120]⟩
  rw [x1_acc, x1_look] at hac
  have HA := Lib.hid hac
  clear hac hG
  go_wp2_with fail
  refine HA.out.mono ?_
  rintro e w2 ⟨rfl, hb2⟩
  have hw2 := hb1.trans (hb2.mono hb1.size)
  go_wp2
  go_ret
  exact ⟨rfl, hw2⟩

/-- a row of marks: where it lies, its room, its marks -/
abbrev Mrow := Option Addr × Nat × List Nat
def Mrow.val (x : Mrow) : Value := .slice x.1 x.2.2.length x.2.1
/-- rows of marks, in no block that is another row's -/
def MrOk (W : World) (own : Option Nat) (l : List Mrow) : Prop := ∀ x ∈ l, x.2.2.length ≤ x.2.1 ∧ x.2.1 ≤ maxLen ∧ Reads W W.heap.size 1 x.1 x.2.2.length (ints (natZ x.2.2)) ∧ ∀ ad : Addr, x.1 = some ad → some ad.block ≠ own
theorem reads_wide {w w' : World} {size n : Nat} {A : Option Addr} {xs : List Value} (h : Reads w w.heap.size size A n xs) (hb : Below w.heap.size w w') : Reads w' w'.heap.size size A n xs := (h.below hb).more hb.size
theorem MrOk.below {W W' : World} {own : Option Nat} {l : List Mrow} (h : MrOk W own l) (hb : Below W.heap.size W W') : MrOk W' own l := fun x hx => by
  obtain ⟨h1, h2, h3, h4⟩ := h x hx
  exact ⟨h1, h2, reads_wide h3 hb, h4⟩
/-- the rows' slices lie in a row of one's own, to which one more is appended -/
theorem MrOk.push {W W' : World} {own own' : Option Nat} {l : List Mrow} {x : Mrow} (h : MrOk W own l) (hx : x.2.2.length ≤ x.2.1 ∧ x.2.1 ≤ maxLen ∧ Reads W W.heap.size 1 x.1 x.2.2.length (ints (natZ x.2.2)) ∧ ∀ ad : Addr, x.1 = some ad → some ad.block ≠ own) (hg : W.grownBy W' own) (ho : own' = own ∨ ∃ q, own' = some q ∧ W.heap.size ≤ q) (hlt : ∀ y ∈ l ++ [x], ∀ ad : Addr, y.1 = some ad → ad.block < W.heap.size) : MrOk W' own' (l ++ [x]) := fun y hy => by
  have hy' : y.2.2.length ≤ y.2.1 ∧ y.2.1 ≤ maxLen ∧ Reads W W.heap.size 1 y.1 y.2.2.length (ints (natZ y.2.2)) ∧ ∀ ad : Addr, y.1 = some ad → some ad.block ≠ own := by
    rcases List.mem_append.1 hy with h1 | h1
    · exact h y h1
    · rw [List.mem_singleton] at h1
      rw [h1]
      exact hx
  obtain ⟨h1, h2, h3, h4⟩ := hy'
  refine ⟨h1, h2, (h3.grownF hg (Nat.le_refl _) h4).more hg.size, fun ad he e => ?_⟩
  rcases ho with rfl | ⟨q, rfl, hq⟩
  · exact h4 ad he e
  · injection e with e
    have := hlt y hy ad he
    omega
/-- rows of which the slices lie in a row -/
theorem MrOk.rows {W : World} {base c : Nat} {V : Option Addr} {l : List Mrow} {own : Option Nat} (h : MrOk W own l) (ho : W.ownsRow base 63 1 (.slice V l.length c) l.length (l.map Mrow.val)) : RowsIs W W.heap.size (l.map fun x => natZ x.2.2) V c := by
  obtain ⟨h1, h2, _⟩ := own_cap ho
  refine ⟨by rw [List.length_map]; exact h1, h2, fun i r hr => ?_⟩
  rw [List.getElem?_map, Option.map_eq_some_iff] at hr
  obtain ⟨x, hx, rfl⟩ := hr
  have hi := getElem?_lt hx
  obtain ⟨k1, k2, k3, _⟩ := h x (List.mem_of_getElem? hx)
  have hrd := Reads.of_own ho
  obtain ⟨ad, u, e, hb, hu, hc⟩ := hrd.at_ hi
  rw [List.getElem?_map, hx] at hu
  injection hu with hu
  have hl : (natZ x.2.2).length = x.2.2.length := by unfold natZ; rw [List.length_map]
  exact ⟨ad, x.1, x.2.1, e, hb, by rw [hc, ← hu, hl]; rfl, by rw [hl]; exact k1, k2, by rw [hl]; exact k3⟩
theorem natZ_len (l : List Nat) : (natZ l).length = l.length := by unfold natZ; rw [List.length_map]
theorem natZ_marks {l : List Nat} (h : ∀ i, mkA l i ≤ 3) : Marks (natZ l) := fun z hz => by
  unfold natZ at hz
  obtain ⟨n, hn, rfl⟩ := List.mem_map.1 hz
  obtain ⟨i, hi⟩ := List.mem_iff_getElem?.1 hn
  have := h i
  unfold mkA at this
  rw [List.getD_eq_getElem?_getD, hi] at this
  simp only [Option.getD_some] at this
  omega
theorem chkF_of {L : Nat} : ∀ {rows : List (List Int)}, (∀ r ∈ rows, r.length = L ∧ Marks r) → L ≤ 120 → chkF L rows = 0
  | [], _, _ => rfl
  | r :: rs, h, hL => by
    obtain ⟨h1, h2⟩ := h r (by simp)
    rw [chkF, if_neg (by rw [check_of (by omega) h2]; simp), if_neg (by omega)]
    exact chkF_of (fun x hx => h x (by simp [hx])) hL
theorem chkR_of {rows : List (List Int)} {L : Nat} (h40 : rows.length ≤ 40) (hL : L ≤ 120) (h : ∀ r ∈ rows, r.length = L ∧ Marks r) : chkR rows = 0 ∧ (0 < rows.length → rowL rows = L) := by
  have h0 : 0 < rows.length → rowL rows = L := fun hp => by
    have := rowL_is (rows := rows) (x := rows[0]) (List.getElem?_eq_getElem hp)
    rw [this]
    exact (h _ (List.getElem_mem hp)).1
  refine ⟨?_, h0⟩
  unfold chkR
  rw [if_neg (by omega)]
  rcases Nat.eq_zero_or_pos rows.length with h1 | h1
  · have : rows = [] := List.eq_nil_of_length_eq_zero h1
    rw [this]
    rfl
  · rw [h0 h1]
    exact chkF_of h hL
/-- marks that say the same are the same -/
theorem says_eq {a b : List Int} {L : Nat} (ha : a.length = L) (hb : b.length = L) (ma : Marks a) (mb : Marks b) (h : ∀ x < 2 * L, says a x = says b x) : a = b := by
  apply List.ext_getElem?
  intro i
  rcases Nat.lt_or_ge i L with hi | hi
  · have h1 := List.getElem?_eq_getElem (l := a) (i := i) (by omega)
    have h2 := List.getElem?_eq_getElem (l := b) (i := i) (by omega)
    generalize a[i]'(by omega) = x at h1
    generalize b[i]'(by omega) = y at h2
    have hx := ma x (List.mem_of_getElem? h1)
    have hy := mb y (List.mem_of_getElem? h2)
    have e0 := h (2 * i) (by omega)
    have e1 := h (2 * i + 1) (by omega)
    unfold says at e0 e1
    rw [show 2 * i / 2 = i by omega, h1, h2] at e0
    rw [show (2 * i + 1) / 2 = i by omega, h1, h2] at e1
    simp only [show 2 * i % 2 = 0 by omega, show (2 * i + 1) % 2 = 1 by omega, if_true] at e0 e1
    rw [if_neg (by decide), if_neg (by decide)] at e1
    rw [h1, h2]
    congr 1
    rcases (by omega : x = 0 ∨ x = 1 ∨ x = 2 ∨ x = 3) with rfl | rfl | rfl | rfl <;> rcases (by omega : y = 0 ∨ y = 1 ∨ y = 2 ∨ y = 3) with rfl | rfl | rfl | rfl <;> first | rfl | (exact absurd e0 (by decide)) | (exact absurd e1 (by decide))
  · rw [List.getElem?_eq_none (by omega), List.getElem?_eq_none (by omega)]
end Go.Proofs.Ytphfckihdhmhpaa
