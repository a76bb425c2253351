/- A grammar with other names: the map of names filled, the rules copied. -/
import Derived.Test.YtkmcnekjimobhaaRnW
import Derived.Test.YtkmcnekjimobhaaShR
import Derived.Test.YtkmcnekjimobhaaGK
import Derived.Test.YtkmcnekjimobhaaGP
namespace Go.Proofs.Ytkmcnekjimobhaa
open Go.RowKit Go.Maps

theorem k8_rtR {g : List Rl} {e : Ex} (h : Rt g e) : K8 e := by
  induction h with
  | mk k a b c d t ks hf _ _ ih => exact .mk k a b c d t ks (fit_len hf) ih

/-! the map of names -/
def nmD : List Rl → Nat → NmD → NmD
  | [], _, D => D
  | r :: rs, i, D => nmD rs (i + 1) (D.put (.string r.1.data.toList) (.lit (.string (newL i))))
theorem nmD_snoc (r : Rl) : ∀ (l : List Rl) (i : Nat) (D : NmD), nmD (l ++ [r]) i D = (nmD l i D).put (.string r.1.data.toList) (.lit (.string (newL (i + l.length))))
  | [], i, D => by simp [nmD]
  | x :: l, i, D => by
    rw [List.cons_append, nmD, nmD, nmD_snoc r l (i + 1)]
    simp only [List.length_cons]
    rw [show i + 1 + l.length = i + (l.length + 1) by omega]
def lastF : List Rl → ByteArray → Nat → Option Nat
  | [], _, _ => none
  | r :: rs, t, i => match lastF rs t (i + 1) with
    | some k => some k
    | none => if r.1 = t then some i else none
theorem nmD_at (t : ByteArray) (z : NmD) : ∀ (l : List Rl) (i : Nat) (D : NmD), Maps.IsMap D → (nmD l i D).atKey (.string t.data.toList) z = match lastF l t i with
    | some k => .lit (.string (newL k))
    | none => D.atKey (.string t.data.toList) z
  | [], i, D, _ => rfl
  | r :: l, i, D, hD => by
    rw [nmD, nmD_at t z l (i + 1) _ (hD.put _ _), lastF]
    cases lastF l t (i + 1) with
    | some k => rfl
    | none =>
      by_cases h : r.1 = t
      · simp only [h, if_pos]
        rw [Maps.atKey_put_same hD (by simp [WideAt.IsKeyLit])]
      · simp only [if_neg h]
        have hne : (Lit.string t.data.toList) ≠ .string r.1.data.toList := by
          intro e
          injection e with e
          exact h (by obtain ⟨⟨u⟩⟩ := t; obtain ⟨⟨⟨v⟩⟩, _⟩ := r; simp at e; rw [e])
        rw [Maps.atKey_put_other hne]
theorem lastF_some (t : ByteArray) : ∀ (l : List Rl) (i k : Nat), lastF l t i = some k → ∃ r, i ≤ k ∧ l[k - i]? = some r ∧ r.1 = t
  | [], _, _, h => by cases h
  | r :: l, i, k, h => by
    rw [lastF] at h
    cases hl : lastF l t (i + 1) with
    | some k' =>
      rw [hl] at h
      injection h with h
      subst h
      obtain ⟨r', h1, h2, h3⟩ := lastF_some t l (i + 1) k' hl
      refine ⟨r', by omega, ?_, h3⟩
      rw [show k' - i = (k' - (i + 1)) + 1 by omega, List.getElem?_cons_succ]
      exact h2
    | none =>
      rw [hl] at h
      simp only at h
      by_cases hr : r.1 = t
      · rw [if_pos hr] at h
        injection h with h
        subst h
        exact ⟨r, by omega, by simp, hr⟩
      · rw [if_neg hr] at h; cases h
theorem lastF_none (t : ByteArray) : ∀ (l : List Rl) (i : Nat), lastF l t i = none → ∀ r ∈ l, r.1 ≠ t
  | [], _, _, _, h => by cases h
  | r :: l, i, h, r', hr' => by
    rw [lastF] at h
    cases hl : lastF l t (i + 1) with
    | some k' => rw [hl] at h; cases h
    | none =>
      rw [hl] at h
      simp only at h
      rcases List.mem_cons.1 hr' with rfl | hr'
      · intro e
        rw [if_pos e] at h
        cases h
      · exact lastF_none t l (i + 1) hl r' hr'
theorem bytes_ext {s t : ByteArray} (h : s.data.toList = t.data.toList) : s = t := by
  obtain ⟨⟨u⟩⟩ := s
  obtain ⟨⟨v⟩⟩ := t
  simp at h
  rw [h]
/-- what the map has at a name is what stands for it -/
theorem lk_nm {g : List Rl} (R : RightG g) : lkD (nmD g 0 (.map [])) = nmG g := by
  funext t
  unfold lkD
  rw [nmD_at t _ g 0 _ Maps.isMap_empty]
  unfold nmG
  cases h : lastF g t 0 with
  | some k =>
    obtain ⟨r, _, h2, h3⟩ := lastF_some t g 0 k h
    have h4 := R.once k r (by simpa using h2)
    rw [h3] at h4
    rw [h4, if_neg (by omega)]
    rfl
  | none =>
    have h1 := lastF_none t g 0 h
    rw [if_pos]
    · simp [DataW.atKey]
    · refine Int.not_le.1 fun h0 => ?_
      obtain ⟨r, hr, e⟩ := fnd_at h0
      exact h1 r (List.mem_of_getElem? hr) (bytes_ext e)

theorem rep_y : ∀ n : Nat, Lib.repeatL [121] n = List.replicate n 121
  | 0 => rfl
  | n + 1 => by rw [Lib.repeatL, rep_y n]; rfl

/-- while names are given -/
structure RmI (g : List Rl) (A : Option Addr) (cp : Nat) (w : World) (j : Nat) (W : World) : Prop where
  bel : Below w.heap.size w W
  box : Blk W w.heap.size 24 #[.slice A g.length cp]
  res : Blk W (w.heap.size + 1) 24 #[.slice none 0 0]
  map : NmIs W (w.heap.size + 1 + 1) j (nmD (g.take j) 0 (.map []))
theorem RmI.below {g : List Rl} {A : Option Addr} {cp j : Nat} {w W W' : World} (h : RmI g A cp w j W) (hb : Below W.heap.size W W') : RmI g A cp w j W' :=
  ⟨h.bel.trans (hb.mono h.bel.size), h.box.below hb h.box.lt, h.res.below hb h.res.lt, h.map.below hb⟩
theorem u8_97 : ∀ j < 10, IntKind.u8.wrap (IntKind.i64.wrap (97 + IntKind.i64.wrap (((j : Nat) : Int) / 7))) = (((97 + j / 7).toUInt8.toNat : Nat) : Int) := by decide
/-- the rule at hand -/
structure RmC (kb : Nat) (k : Array Value) (I : World → Prop) (W : World) : Prop where
  rule : Blk W kb 96 k
  inv : I W
theorem RmC.below {kb : Nat} {k : Array Value} {g : List Rl} {A : Option Addr} {cp j : Nat} {w W W' : World} (h : RmC kb k (RmI g A cp w j) W) (hb : Below W.heap.size W W') : RmC kb k (RmI g A cp w j) W' := ⟨h.rule.below hb h.rule.lt, h.inv.below hb⟩

/-- the rule at hand, what is made, the map -/
structure RkC (mb n : Nat) (D : NmD) (ob kb : Nat) (o k : Array Value) (W : World) : Prop where
  out : Blk W ob 24 o
  rule : Blk W kb 96 k
  map : NmIs W mb n D
theorem RkC.below {mb n ob kb : Nat} {D : NmD} {o k : Array Value} {W W' : World} (h : RkC mb n D ob kb o k W) (hb : Below W.heap.size W W') : RkC mb n D ob kb o k W' := ⟨h.out.below hb h.out.lt, h.rule.below hb h.rule.lt, h.map.below hb⟩
theorem RkC.grown {mb n ob kb : Nat} {D : NmD} {o k : Array Value} {W W' : World} {r : Option Nat} (h : RkC mb n D ob kb o k W) (hg : W.grownBy W' r) (h1 : some ob ≠ r) (h2 : some kb ≠ r) (h3 : some mb ≠ r) : RkC mb n D ob kb o k W' := ⟨h.out.grown hg h1, h.rule.grown hg h2, World.ownsMap.kept h.map hg h3⟩
/-- while rules are made -/
structure RkI (D : NmD) (g : List Rl) (w : World) (nb : Nat) (V : Option Addr) (c : Nat) (rows : Nat → List Value) (j : Nat) (W : World) : Prop where
  bel : Below w.heap.size w W
  res : Blk W (w.heap.size + 1) 24 #[.slice none 0 0]
  nlo : w.heap.size + 1 + 1 < nb
  out : Blk W nb 24 #[.slice V j c]
  rus : Rus (nb + 1) W ((g.take j).map fun r => (lkD D r.1, rnE (lkD D) r.2)) V c rows
  map : NmIs W (w.heap.size + 1 + 1) g.length D
section
variable {D : NmD} {g : List Rl} {w : World} {nb : Nat} {V : Option Addr} {c : Nat} {rows : Nat → List Value} {j : Nat} {W W' : World}
theorem RkI.below (h : RkI D g w nb V c rows j W) (hb : Below W.heap.size W W') : RkI D g w nb V c rows j W' :=
  ⟨h.bel.trans (hb.mono h.bel.size), h.res.below hb h.res.lt, h.nlo, h.out.below hb h.out.lt, h.rus.below hb, h.map.below hb⟩
theorem RkI.push {V' : Option Addr} {c' lo : Nat} {r : Rl} {rc : List Value} (h : RkI D g w nb V c rows j W) (he : g[j]? = some r) (hlo : nb + 1 ≤ lo) (hold : ∀ q, (Value.slice V j c).ownBlock = some q → q < lo) (hn : (lkD D r.1).size ≤ maxLen) (hE : ExF (fun b => lo ≤ b ∧ b < W.heap.size) W.heap.size W (rnE (lkD D) r.2) rc)
    (hown : W'.ownsRow (nb + 1) 96 8 (.slice V' (j + 1) c') (j + 1) (ruF ((g.take j).map fun r => (lkD D r.1, rnE (lkD D) r.2)) rows 0 ++ (.string (lkD D r.1) :: rc))) (hg : W.grownBy W' (Value.slice V j c).ownBlock)
    (hat : (Value.slice V' (j + 1) c').ownBlock = (Value.slice V j c).ownBlock ∨ (Value.slice V' (j + 1) c').ownBlock = some W.heap.size) :
    RkI D g w nb V' c' (fun i => if i = j then rc else rows i) (j + 1) (W'.setCell ⟨nb, 0, none⟩ (.slice V' (j + 1) c')) := by
  have hjl := getElem?_lt he
  have hnl := h.nlo
  have hl : ((g.take j).map fun r => (lkD D r.1, rnE (lkD D) r.2)).length = j := by simp; omega
  have hne : ∀ b, b < nb + 1 → some b ≠ (Value.slice V j c).ownBlock := fun b hb e => by
    have := h.rus.own.lt b (by rw [hl]; exact e.symm)
    omega
  have hlow : Below w.heap.size W W' := ⟨hg.os, hg.tape, hg.output, hg.size, fun q hq => hg.block q (by have := h.bel.size; omega) (hne q (by omega))⟩
  have hk := h.rus.push (V' := V') (c' := c') (lo := lo) (r := (lkD D r.1, rnE (lkD D) r.2)) hlo (by rw [hl]; exact hold) hn hE (by rw [hl]; exact hown) (by rw [hl]; exact hg) (by rw [hl]; exact hat)
  rw [hl] at hk
  have hm : NmIs (W'.setCell ⟨nb, 0, none⟩ (.slice V' (j + 1) c')) (w.heap.size + 1 + 1) g.length D :=
    World.ownsMap.kept (row := some nb) (World.ownsMap.kept h.map hg (hne _ (by omega))) ⟨rfl, rfl, rfl, by simp [World.setCell], fun q hq hn => Below.heap_setCell W' ⟨nb, 0, none⟩ _ q (by rintro rfl; exact hn rfl)⟩ (by simp; omega)
  refine ⟨(h.bel.trans hlow).setCell (by simp; omega) _, ((h.res.grown hg (hne _ (by omega))).far (by simp; omega) _), hnl, ((h.out.grown hg (hne _ (by omega))).set_ 0 _), ?_, hm⟩
  rw [take_succ_of he, List.map_append, List.map_cons, List.map_nil]
  exact hk.far (by omega) _ _
end

set_option maxRecDepth 100000 in
set_option maxHeartbeats 8000000 in
theorem rename_any {g : List Rl} {A : Option Addr} {cp : Nat} {row : Nat → List Value} {w : World} (h : GrIs w w.heap.size g A cp row) (h0 : checkG g = 0) :
    Calls Try.prog 37 #[.agg #[.slice A g.length cp]] w fun e w' => Below w.heap.size w w' ∧ ∃ V c rows, e = .returned (.agg #[.slice V g.length c]) ∧ GrIs w' w'.heap.size (rnG g) V c rows := by
  have R := right_of h0
  have hten := R.ten
  have HG := Lib.hid h
  have HR := Lib.hid R
  clear h h0 R
  go_enter Try.func37, Try.ntmps37
  have hmm := @run_makeMap Try.prog
  go_wp2
  go_loopw [4, 5, 13] (fun _ _ i wr => ∃ j : Nat, j ≤ g.length ∧ i = .int .i64 j ∧ RmI g A cp w j wr) (fun _ _ i _ => g.length - (intOf i).toNat)
  case atStart =>
    refine ⟨0, by omega, rfl, (by repeat (first | exact Below.refl _ _ | assumption | refine Below.drew ?_ | refine below_drewN ?_ _ | refine Below.alloc ?_ (by first | omega | (simp; omega) | simp) _ | refine Below.setCell ?_ (by first | omega | (simp; omega) | simp) _)), ((blk_at rfl).alloc _).alloc _, (blk_at (by simp)).alloc _, ?_⟩
    have hm := World.ownsMap_made ((w.alloc (.cells #[.slice A g.length cp] 24)).alloc (.cells #[.slice none 0 0] 24)) Try.prog 9 (plainElem (H := Unit) Try.prog 9)
    simpa [nmD] using hm
  case round =>
    obtain ⟨j, hj, rfl, hI⟩ := hrel
    have hbw := hI.bel
    by_cases hjn : j < g.length
    · obtain ⟨ad, nm, k', a', b', c', d', t', ks', A', cp', rfl, hab, hej, hnm, hE, hS⟩ := HG.out.rule hjn
      have hk := fun (q : Addr) (hq : q.block = (ad.add (j * 8)).block) => hbw.cell (p := q) (by rw [hq, add_block]; omega)
      have y0 := (hk _ rfl).trans hS.c0
      have y1 := (hk ⟨_, _, none⟩ rfl).trans hS.c1
      have y2 := (hk ⟨_, _, none⟩ rfl).trans hS.c2
      have y3 := (hk ⟨_, _, none⟩ rfl).trans hS.c3
      have y4 := (hk ⟨_, _, none⟩ rfl).trans hS.c4
      have y5 := (hk ⟨_, _, none⟩ rfl).trans hS.c5
      have y6 := (hk ⟨_, _, none⟩ rfl).trans hS.c6
      have y7 := (hk ⟨_, _, none⟩ rfl).trans hS.c7
      have hzw := hbw.size
      have had1 : ad.block < wr.heap.size := by omega
      have hjl : (j : Int) < (g.length : Int) := by omega
      clear hk hS hE
      have hC0 : RmC wr.heap.size #[.string nm, .int .i64 k', .int .u64 a', .int .u64 b', .int .u64 c', .int .u64 d', .string t', .slice A' ks'.length cp'] (RmI g (some ad) cp w j) (wr.alloc (.cells #[.string nm, .int .i64 k', .int .u64 a', .int .u64 b', .int .u64 c', .int .u64 d', .string t', .slice A' ks'.length cp'] 96)) := ⟨blk_at rfl, hI.below ((Below.refl _ wr).alloc (Nat.le_refl _) _)⟩
      have HEJ := Lib.hid hej
      have HNM := Lib.hid hnm
      have hkbw : w.heap.size + 1 + 1 < wr.heap.size := World.ownsMap.lt hI.map
      clear hej hnm hI
      go_upto_region 5 with fail
      generalize (wr.alloc (.cells #[.string nm, .int .i64 k', .int .u64 a', .int .u64 b', .int .u64 c', .int .u64 d', .string t', .slice A' ks'.length cp'] 96)) = w11 at hC0 ⊢
      generalize wr.heap.size = kb at hC0 hkbw ⊢
      clear y0 y1 y2 y3 y4 y5 y6 y7 had1 hbw hzw
      refine wp_region_l (RmC kb #[.string nm, .int .i64 k', .int .u64 a', .int .u64 b', .int .u64 c', .int .u64 d', .string t', .slice A' ks'.length cp'] (RmI g (some ad) cp w j)) (· == 14) (by kernel_rfl) ?_
      have hC : RmC kb #[.string nm, .int .i64 k', .int .u64 a', .int .u64 b', .int .u64 c', .int .u64 d', .string t', .slice A' ks'.length cp'] (RmI g (some ad) cp w j) w11.drew := ⟨hC0.rule.drew, hC0.inv.below (Below.refl _ _).drew⟩
      generalize w11.drew = wd at hC ⊢
      clear hC0
      apply L.rd (i := 0) rfl (by kernel_rfl) hC rfl
      · intro W hW
        skip
        unfold readW
        go_simp
        first | rfl | exact ⟨rfl, rfl⟩
      first | simp only [Act.put, List.setIfInBounds_toArray, List.set_cons_succ, List.set_cons_zero] | skip
      apply L.rd (i := 1) rfl (by kernel_rfl) hC rfl
      · intro W hW
        skip
        unfold readW
        go_simp
        first | rfl | exact ⟨rfl, rfl⟩
      first | simp only [Act.put, List.setIfInBounds_toArray, List.set_cons_succ, List.set_cons_zero] | skip
      apply L.rd (i := 2) rfl (by kernel_rfl) hC rfl
      · intro W hW
        have n0 := hW.rule.cell 0
        unfold readW
        go_simp
        first | rfl | exact ⟨rfl, rfl⟩
      first | simp only [Act.put, List.setIfInBounds_toArray, List.set_cons_succ, List.set_cons_zero] | skip
      apply L.rd (i := 3) rfl (by kernel_rfl) hC rfl
      · intro W hW
        skip
        unfold readW
        go_simp
        first | rfl | exact ⟨rfl, rfl⟩
      first | simp only [Act.put, List.setIfInBounds_toArray, List.set_cons_succ, List.set_cons_zero] | skip
      apply L.rd (i := 4) rfl (by kernel_rfl) hC rfl
      · intro W hW
        skip
        unfold readW
        go_simp
        first | rfl | exact ⟨rfl, rfl⟩
      first | simp only [Act.put, List.setIfInBounds_toArray, List.set_cons_succ, List.set_cons_zero] | skip
      apply L.rd (i := 7) rfl (by kernel_rfl) hC rfl
      · intro W hW
        skip
        unfold readW
        go_simp
        first | rfl | exact ⟨rfl, rfl⟩
      first | simp only [Act.put, List.setIfInBounds_toArray, List.set_cons_succ, List.set_cons_zero] | skip
      apply L.rd (i := 8) rfl (by kernel_rfl) hC rfl
      · intro W hW
        skip
        unfold readW
        go_simp
        first | rfl | exact ⟨rfl, rfl⟩
      first | simp only [Act.put, List.setIfInBounds_toArray, List.set_cons_succ, List.set_cons_zero] | skip
      apply L.rd (i := 9) rfl (by kernel_rfl) hC rfl
      · intro W hW
        skip
        unfold readW
        go_simp
        first | rfl | exact ⟨rfl, rfl⟩
      first | simp only [Act.put, List.setIfInBounds_toArray, List.set_cons_succ, List.set_cons_zero] | skip
      apply L.rd (i := 10) rfl (by kernel_rfl) hC rfl
      · intro W hW
        skip
        unfold readW
        go_simp
        first | rfl | exact ⟨rfl, rfl⟩
      first | simp only [Act.put, List.setIfInBounds_toArray, List.set_cons_succ, List.set_cons_zero] | skip
      have hj10 : j < 10 := by omega
      have e1 : Int.tmod (j : Int) 7 = ((j % 7 : Nat) : Int) := rfl
      obtain ⟨Z, hZ⟩ : ∃ Z : UInt8, Z = (97 + j / 7).toUInt8 := ⟨_, rfl⟩
      have e2 := u8_97 j hj10
      rw [← hZ] at e2
      obtain ⟨Y, hY⟩ : ∃ Y : ByteArray, Y = ⟨(Lib.repeatL (⟨#[121]⟩ : ByteArray).data.toList (j % 7)).toArray⟩ := ⟨_, rfl⟩
      have hrp := fun W => sh_strings_Repeat ⟨#[121]⟩ (j % 7) W (by omega) (by show 1 * _ ≤ _; omega)
      rw [← hY] at hrp
      have hYs : Y.size ≤ 6 := by
        rw [hY]
        show (Lib.repeatL [121] (j % 7)).toArray.size ≤ 6
        rw [List.size_toArray, Lib.repeatL_length]
        simp
        omega
      have HX : Hid ((⟨#[120]⟩ : ByteArray) ++ Y ++ ⟨[Z].toArray⟩ = newN j) := by
        show _ = _
        apply bytes_ext
        rw [hY, hZ, newN_list, newL]
        show ([120] ++ (Lib.repeatL [121] (j % 7)) ++ [(97 + j / 7).toUInt8]) = _
        rw [rep_y]
      have HRP := Lib.hid hrp
      have HCV : Hid (∀ (W : World) (b : Nat), Blk W b 5 #[.int .u8 (Z.toNat : Int)] → (convert 145 9 (.slice (some ⟨b, 0, none⟩) 1 1)).run Try.prog W = .ok (.string ⟨[Z].toArray⟩) W) := fun W b hb =>
        run_convert_bytes_back W 145 9 5 ⟨b, 0, none⟩ 1 [Z] Try.underlying145 Try.underlying5 Try.underlying9 fun i hi => by
          obtain rfl : i = 0 := by simpa using hi
          exact hb.cell 0
      have hsz : (newN j).size ≤ maxLen := by
        rw [← size_list, newN_list, newL]
        unfold maxLen
        simp
        omega
      have HUP : Hid (∀ W : World, NmIs W (w.heap.size + 1 + 1) j (nmD (g.take j) 0 (.map [])) → ∃ w', (Instr.mapUpdate 143 (.map (some (w.heap.size + 1 + 1))) (.string nm) (.string (newN j))).run Try.prog W = .ok () w' ∧ NmIs w' (w.heap.size + 1 + 1) (j + 1) (nmD (g.take (j + 1)) 0 (.map [])) ∧ W.grownBy w' (some (w.heap.size + 1 + 1))) := fun W hW => by
        obtain ⟨w', h1, h2, h3⟩ := World.ownsMap.update hW (Maps.string_keyed Try.underlying9) Try.underlying143 (by unfold maxLen; omega) (Go.WideMaps.keyOf_string_mk Try.underlying9 HNM.out) (plainElem_string Try.underlying9 hsz)
        refine ⟨w', h1, ?_, h3⟩
        rw [take_succ_of HEJ.out, nmD_snoc]
        rw [show 0 + (g.take j).length = j by simp; omega]
        exact h2
      have HDN : Hid (∀ W w' : World, RmI g (some ad) cp w j W → NmIs w' (w.heap.size + 1 + 1) (j + 1) (nmD (g.take (j + 1)) 0 (.map [])) → W.grownBy w' (some (w.heap.size + 1 + 1)) → RmI g (some ad) cp w (j + 1) w') := fun W w' hI hm hg =>
        ⟨hI.bel.trans ((Below.refl _ W).grown hg hI.bel.size (fun k e => by cases e; omega)), hI.box.grown hg (by simp; omega), hI.res.grown hg (by simp), hm⟩
      rw [e1, e2]
      clear e1 e2 hZ hY hrp hsz
      apply L.two (i := 5) (k := 11) rfl rfl (by kernel_rfl) rfl rfl
      · unfold stepT
        go_simp
        go_at_call 72
        refine (HRP.out _).mono ?_
        rintro e wn ⟨rfl, hbn⟩
        have hC := hC.below hbn
        refine ⟨_, rfl, hC, ?_⟩
        first | simp only [Act.put, List.setIfInBounds_toArray, List.set_cons_succ, List.set_cons_zero] | skip
        apply L.rd (i := 6) rfl (by kernel_rfl) hC rfl
        · intro W hW
          unfold readW
          go_simp
          have e1 : (⟨#[120]⟩ : ByteArray).size = 1 := rfl
          have e2 : (⟨[Z].toArray⟩ : ByteArray).size = 1 := rfl
          rw [if_neg (by first | omega | (simp only [ByteArray.size_append]; omega))]
          exact ⟨rfl, rfl⟩
        first | simp only [Act.put, List.setIfInBounds_toArray, List.set_cons_succ, List.set_cons_zero] | skip
        apply L.one (i := 11) rfl (by kernel_rfl) rfl
        unfold stepT
        go_simp
        have hC := hC.below ((Below.refl _ wn).alloc (Nat.le_refl _) (.cells #[.int .u8 (Z.toNat : Int)] 5))
        have hb1 : Blk (wn.alloc (.cells #[.int .u8 (Z.toNat : Int)] 5)) wn.heap.size 5 #[.int .u8 (Z.toNat : Int)] := blk_at rfl
        generalize wn.alloc (.cells #[.int .u8 (Z.toNat : Int)] 5) = wb at hC hb1 ⊢
        generalize wn.heap.size = nb at hb1 ⊢
        refine ⟨hC, ?_⟩
        first | simp only [Act.put, List.setIfInBounds_toArray, List.set_cons_succ, List.set_cons_zero] | skip
        have hcv := Lib.hid (HCV.out wb nb hb1)
        have hcv := hcv.out
        apply L.one (i := 12) rfl (by kernel_rfl) rfl
        unfold stepT
        go_simp
        first | simp only [Act.put, List.setIfInBounds_toArray, List.set_cons_succ, List.set_cons_zero] | skip
        clear hcv
        apply L.rd (i := 13) rfl (by kernel_rfl) hC rfl
        · intro W hW
          unfold readW
          go_simp
          have e1 : (⟨#[120]⟩ : ByteArray).size = 1 := rfl
          have e2 : (⟨[Z].toArray⟩ : ByteArray).size = 1 := rfl
          rw [if_neg (by first | omega | (simp only [ByteArray.size_append]; omega))]
          exact ⟨rfl, rfl⟩
        first | simp only [Act.put, List.setIfInBounds_toArray, List.set_cons_succ, List.set_cons_zero] | skip
        rw [HX.out]
        obtain ⟨w9, hrun, hm9, hg9⟩ := HUP.out wb hC.inv.map
        have hI9 := HDN.out wb w9 hC.inv hm9 hg9
        apply L.one (i := 14) rfl (by kernel_rfl) rfl
        unfold stepT
        go_simp
        refine L.done (by kernel_rfl) ?_
        have HI9 := Lib.hid hI9
        clear hrun hm9 hg9 hI9 hC
        go_wp2
        go_roundw
        case rel => exact ⟨j + 1, by omega, by go_num, HI9.out⟩
        case measure => simp [intOf]; omega
      · unfold stepT
        go_simp
        have hC := hC.below ((Below.refl _ wd).alloc (Nat.le_refl _) (.cells #[.int .u8 (Z.toNat : Int)] 5))
        have hb1 : Blk (wd.alloc (.cells #[.int .u8 (Z.toNat : Int)] 5)) wd.heap.size 5 #[.int .u8 (Z.toNat : Int)] := blk_at rfl
        generalize wd.alloc (.cells #[.int .u8 (Z.toNat : Int)] 5) = wb at hC hb1 ⊢
        generalize wd.heap.size = nb at hb1 ⊢
        refine ⟨hC, ?_⟩
        first | simp only [Act.put, List.setIfInBounds_toArray, List.set_cons_succ, List.set_cons_zero] | skip
        apply L.two (i := 5) (k := 12) rfl rfl (by kernel_rfl) rfl rfl
        · unfold stepT
          go_simp
          go_at_call 72
          refine (HRP.out _).mono ?_
          rintro e wn ⟨rfl, hbn⟩
          have hC := hC.below hbn
          refine ⟨_, rfl, hC, ?_⟩
          first | simp only [Act.put, List.setIfInBounds_toArray, List.set_cons_succ, List.set_cons_zero] | skip
          apply L.rd (i := 6) rfl (by kernel_rfl) hC rfl
          · intro W hW
            unfold readW
            go_simp
            have e1 : (⟨#[120]⟩ : ByteArray).size = 1 := rfl
            have e2 : (⟨[Z].toArray⟩ : ByteArray).size = 1 := rfl
            rw [if_neg (by first | omega | (simp only [ByteArray.size_append]; omega))]
            exact ⟨rfl, rfl⟩
          first | simp only [Act.put, List.setIfInBounds_toArray, List.set_cons_succ, List.set_cons_zero] | skip
          have hb1 := hb1.below hbn hb1.lt
          have hcv := Lib.hid (HCV.out wn nb hb1)
          have hcv := hcv.out
          apply L.one (i := 12) rfl (by kernel_rfl) rfl
          unfold stepT
          go_simp
          first | simp only [Act.put, List.setIfInBounds_toArray, List.set_cons_succ, List.set_cons_zero] | skip
          clear hcv
          apply L.rd (i := 13) rfl (by kernel_rfl) hC rfl
          · intro W hW
            unfold readW
            go_simp
            have e1 : (⟨#[120]⟩ : ByteArray).size = 1 := rfl
            have e2 : (⟨[Z].toArray⟩ : ByteArray).size = 1 := rfl
            rw [if_neg (by first | omega | (simp only [ByteArray.size_append]; omega))]
            exact ⟨rfl, rfl⟩
          first | simp only [Act.put, List.setIfInBounds_toArray, List.set_cons_succ, List.set_cons_zero] | skip
          rw [HX.out]
          obtain ⟨w9, hrun, hm9, hg9⟩ := HUP.out wn hC.inv.map
          have hI9 := HDN.out wn w9 hC.inv hm9 hg9
          apply L.one (i := 14) rfl (by kernel_rfl) rfl
          unfold stepT
          go_simp
          refine L.done (by kernel_rfl) ?_
          have HI9 := Lib.hid hI9
          clear hrun hm9 hg9 hI9 hC
          go_wp2
          go_roundw
          case rel => exact ⟨j + 1, by omega, by go_num, HI9.out⟩
          case measure => simp [intOf]; omega
        · have hcv := HCV.out wb nb hb1
          unfold stepT
          go_simp
          first | simp only [Act.put, List.setIfInBounds_toArray, List.set_cons_succ, List.set_cons_zero] | skip
          apply L.one (i := 5) rfl (by kernel_rfl) rfl
          unfold stepT
          go_simp
          go_at_call 72
          refine (HRP.out _).mono ?_
          rintro e wn ⟨rfl, hbn⟩
          have hC := hC.below hbn
          refine ⟨_, rfl, hC, ?_⟩
          first | simp only [Act.put, List.setIfInBounds_toArray, List.set_cons_succ, List.set_cons_zero] | skip
          apply L.rd (i := 6) rfl (by kernel_rfl) hC rfl
          · intro W hW
            unfold readW
            go_simp
            have e1 : (⟨#[120]⟩ : ByteArray).size = 1 := rfl
            have e2 : (⟨[Z].toArray⟩ : ByteArray).size = 1 := rfl
            rw [if_neg (by first | omega | (simp only [ByteArray.size_append]; omega))]
            exact ⟨rfl, rfl⟩
          first | simp only [Act.put, List.setIfInBounds_toArray, List.set_cons_succ, List.set_cons_zero] | skip
          apply L.rd (i := 13) rfl (by kernel_rfl) hC rfl
          · intro W hW
            unfold readW
            go_simp
            have e1 : (⟨#[120]⟩ : ByteArray).size = 1 := rfl
            have e2 : (⟨[Z].toArray⟩ : ByteArray).size = 1 := rfl
            rw [if_neg (by first | omega | (simp only [ByteArray.size_append]; omega))]
            exact ⟨rfl, rfl⟩
          first | simp only [Act.put, List.setIfInBounds_toArray, List.set_cons_succ, List.set_cons_zero] | skip
          rw [HX.out]
          obtain ⟨w9, hrun, hm9, hg9⟩ := HUP.out wn hC.inv.map
          have hI9 := HDN.out wn w9 hC.inv hm9 hg9
          apply L.one (i := 14) rfl (by kernel_rfl) rfl
          unfold stepT
          go_simp
          refine L.done (by kernel_rfl) ?_
          have HI9 := Lib.hid hI9
          clear hrun hm9 hg9 hI9 hC
          go_wp2
          go_roundw
          case rel => exact ⟨j + 1, by omega, by go_num, HI9.out⟩
          case measure => simp [intOf]; omega
    · obtain rfl : j = g.length := by omega
      have hgx := hI.box
      have hrs := hI.res
      have hM := hI.map
      rw [List.take_length] at hM
      have hlk := lk_nm HR.out
      generalize hD : nmD g 0 (.map []) = D at hM hlk
      have g1 : wr.cell? ⟨w.heap.size, 0, none⟩ = some (.slice A g.length cp) := hgx.cell 0
      have hgl := hgx.lt
      have hlt := World.ownsMap.lt hM
      obtain ⟨i0, hi0, hz0, hz1, hz2⟩ := info_parts rule_info
      have hgcap := HG.out.cap
      unfold maxLen at hgcap
      have hstart : RkI D g w wr.heap.size none 0 (fun _ => []) 0 (wr.alloc (.cells #[.slice none 0 0] 24)) :=
        ⟨hbw.alloc hbw.size _, hrs.alloc _, by omega, blk_at rfl, Rus.nil _ _, World.ownsMap.alloc hM _⟩
      have hcall : ∀ (j : Nat) (nm : ByteArray) (k' a' b' c' d' : Int) (t' : ByteArray) (ks' : List Ex) (A' : Option Addr) (cp' : Nat) (W : World), NmIs W (w.heap.size + 1 + 1) g.length D → Below w.heap.size w W → g[j]? = some (nm, .mk k' a' b' c' d' t' ks') → ExIs w w.heap.size (.mk k' a' b' c' d' t' ks') (exCells k' a' b' c' d' t' A' ks'.length cp') →
          Calls Try.prog 73 #[.agg #[.int .i64 k', .int .u64 a', .int .u64 b', .int .u64 c', .int .u64 d', .string t', .slice A' ks'.length cp'], .map (some (w.heap.size + 1 + 1))] W (MadeQ (rnE (lkD D) (.mk k' a' b' c' d' t' ks')) W) := fun j nm k' a' b' c' d' t' ks' A' cp' W hm hW hej hx =>
        renamed_any D _ (k8_rtR (HR.out.rt _ (List.mem_of_getElem? hej))) _ W _ _ hm (hx.grow hW)
      have HST := Lib.hid hstart
      have HCA := Lib.hid hcall
      have HLK := Lib.hid hlk
      have HMX : Hid (∀ (V : Option Addr) (c : Nat) (rows : Nat → List Value) (W' : World), GrIs W' W'.heap.size (g.map fun r => (lkD D r.1, rnE (lkD D) r.2)) V c rows → GrIs W' W'.heap.size (rnG g) V c rows) := fun V c rows W' h => by
        rw [HLK.out] at h
        exact h
      clear hI hM hlk hD hstart hcall HLK hrs hgx hj hjn
      rename World => ws
      have hlt0 : w.heap.size < ws.heap.size := by omega
      go_wp2
      go_loopw [8, 36] (fun _ i wr => ∃ j : Nat, j ≤ g.length ∧ i = .int .i64 j ∧ ∃ V c rows, RkI D g w ws.heap.size V c rows j wr) (fun _ i _ => g.length - (intOf i).toNat)
      case atStart => exact ⟨0, by omega, rfl, _, _, _, HST.out⟩
      case round =>
        obtain ⟨j, hj, rfl, V, c, rows, hI⟩ := hrel
        have hbw := hI.bel
        have hnl := hI.out.lt
        by_cases hjn : j < g.length
        · obtain ⟨ad, nm, k', a', b', c', d', t', ks', A', cp', rfl, hab, hej, hnm, hE, hS⟩ := HG.out.rule hjn
          have hcc : Eight wr (ad.add (j * 8)) nm k' a' b' c' d' t' A' ks'.length cp' :=
            have hk := fun (q : Addr) (hq : q.block = (ad.add (j * 8)).block) => hbw.cell (p := q) (by rw [hq, add_block]; omega)
            ⟨(hk _ rfl).trans hS.c0, (hk ⟨_, _, none⟩ rfl).trans hS.c1, (hk ⟨_, _, none⟩ rfl).trans hS.c2, (hk ⟨_, _, none⟩ rfl).trans hS.c3, (hk ⟨_, _, none⟩ rfl).trans hS.c4, (hk ⟨_, _, none⟩ rfl).trans hS.c5, (hk ⟨_, _, none⟩ rfl).trans hS.c6, (hk ⟨_, _, none⟩ rfl).trans hS.c7⟩
          obtain ⟨y0, y1, y2, y3, y4, y5, y6, y7⟩ := hcc
          have had1 : ad.block < wr.heap.size := by omega
          have hjl : (j : Int) < (g.length : Int) := by omega
          have hc1 := fun W hm hW => HCA.out j nm k' a' b' c' d' t' ks' A' cp' W hm hW hej hE
          have HC1 := Lib.hid hc1
          have HEJ := Lib.hid hej
          have HNM := Lib.hid hnm
          clear hc1 hS hE hej hnm
          have hC0 : RkC (w.heap.size + 1 + 1) g.length D ws.heap.size wr.heap.size #[.slice V j c] #[.string nm, .int .i64 k', .int .u64 a', .int .u64 b', .int .u64 c', .int .u64 d', .string t', .slice A' ks'.length cp'] (wr.alloc (.cells #[.string nm, .int .i64 k', .int .u64 a', .int .u64 b', .int .u64 c', .int .u64 d', .string t', .slice A' ks'.length cp'] 96)) := ⟨hI.out.alloc _, blk_at rfl, World.ownsMap.alloc hI.map _⟩
          have hI1 := hI.below ((Below.refl _ wr).alloc (Nat.le_refl _) (.cells #[.string nm, .int .i64 k', .int .u64 a', .int .u64 b', .int .u64 c', .int .u64 d', .string t', .slice A' ks'.length cp'] 96))
          have hll : ((g.take j).map fun r => (lkD D r.1, rnE (lkD D) r.2)).length = j := by simp; omega
          have hold : ∀ q, (Value.slice V j c).ownBlock = some q → q < wr.heap.size := fun q hq => hI.rus.old q (by rw [hll]; exact hq)
          have hkne : some wr.heap.size ≠ (Value.slice V j c).ownBlock := fun e => by have := hold _ e.symm; omega
          have hone : some (ws.heap.size) ≠ (Value.slice V j c).ownBlock := fun e => by have h1 := hI.rus.own.lt (ws.heap.size) (by rw [hll]; exact e.symm); omega
          have hmne : some (w.heap.size + 1 + 1) ≠ (Value.slice V j c).ownBlock := fun e => by have h1 := hI.rus.own.lt (w.heap.size + 1 + 1) (by rw [hll]; exact e.symm); have := hI.nlo; omega
          have hbase1 : ws.heap.size + 1 ≤ (wr.alloc (.cells #[.string nm, .int .i64 k', .int .u64 a', .int .u64 b', .int .u64 c', .int .u64 d', .string t', .slice A' ks'.length cp'] 96)).heap.size := by simp; omega
          have hold1 : ∀ q, (Value.slice V j c).ownBlock = some q → q < (wr.alloc (.cells #[.string nm, .int .i64 k', .int .u64 a', .int .u64 b', .int .u64 c', .int .u64 d', .string t', .slice A' ks'.length cp'] 96)).heap.size := fun q hq => by have := hold q hq; simp; omega
          clear hold hI
          go_upto_region 11 with fail
          generalize (wr.alloc (.cells #[.string nm, .int .i64 k', .int .u64 a', .int .u64 b', .int .u64 c', .int .u64 d', .string t', .slice A' ks'.length cp'] 96)) = w11 at hC0 hI1 hbase1 hold1 ⊢
          generalize wr.heap.size = kb at hC0 hkne ⊢
          clear y0 y1 y2 y3 y4 y5 y6 y7 had1 hbw
          refine wp_region_l (RkC (w.heap.size + 1 + 1) g.length D ws.heap.size kb #[.slice V j c] #[.string nm, .int .i64 k', .int .u64 a', .int .u64 b', .int .u64 c', .int .u64 d', .string t', .slice A' ks'.length cp']) (· == 14) (by kernel_rfl) ?_
          have hC := hC0.below (Below.refl _ _).drew
          have hI := hI1.below (Below.refl _ _).drew
          have hbd : (w11.drew).heap.size = w11.heap.size := rfl
          rw [← hbd] at hbase1 hold1
          generalize w11.drew = wd at hC hI hbase1 hold1 ⊢
          clear hC0 hI1 hbd
          apply L.rd (i := 0) rfl (by kernel_rfl) hC rfl
          · intro W hW
            skip
            unfold readW
            go_simp
            first | rfl | exact ⟨rfl, rfl⟩
          first | simp only [Act.put, List.setIfInBounds_toArray, List.set_cons_succ, List.set_cons_zero] | skip
          apply L.rd (i := 1) rfl (by kernel_rfl) hC rfl
          · intro W hW
            have n0 := hW.out.cell 0
            unfold readW
            go_simp
            first | rfl | exact ⟨rfl, rfl⟩
          first | simp only [Act.put, List.setIfInBounds_toArray, List.set_cons_succ, List.set_cons_zero] | skip
          apply L.rd (i := 2) rfl (by kernel_rfl) hC rfl
          · intro W hW
            skip
            unfold readW
            go_simp
            first | rfl | exact ⟨rfl, rfl⟩
          first | simp only [Act.put, List.setIfInBounds_toArray, List.set_cons_succ, List.set_cons_zero] | skip
          apply L.rd (i := 3) rfl (by kernel_rfl) hC rfl
          · intro W hW
            skip
            unfold readW
            go_simp
            first | rfl | exact ⟨rfl, rfl⟩
          first | simp only [Act.put, List.setIfInBounds_toArray, List.set_cons_succ, List.set_cons_zero] | skip
          apply L.rd (i := 4) rfl (by kernel_rfl) hC rfl
          · intro W hW
            have n0 := hW.rule.cell 0
            unfold readW
            go_simp
            first | rfl | exact ⟨rfl, rfl⟩
          first | simp only [Act.put, List.setIfInBounds_toArray, List.set_cons_succ, List.set_cons_zero] | skip
          apply L.rd (i := 5) rfl (by kernel_rfl) hC rfl
          · intro W hW
            have hl := (NmIs.look hW.map HNM.out).1
            unfold readW
            go_simp
            first | rfl | exact ⟨rfl, rfl⟩
          first | simp only [Act.put, List.setIfInBounds_toArray, List.set_cons_succ, List.set_cons_zero] | skip
          apply L.rd (i := 6) rfl (by kernel_rfl) hC rfl
          · intro W hW
            skip
            unfold readW
            go_simp
            first | rfl | exact ⟨rfl, rfl⟩
          first | simp only [Act.put, List.setIfInBounds_toArray, List.set_cons_succ, List.set_cons_zero] | skip
          apply L.rd (i := 7) rfl (by kernel_rfl) hC rfl
          · intro W hW
            have r1 := hW.rule.cell 1; have r2 := hW.rule.cell 2; have r3 := hW.rule.cell 3; have r4 := hW.rule.cell 4; have r5 := hW.rule.cell 5; have r6 := hW.rule.cell 6; have r7 := hW.rule.cell 7
            unfold readW
            go_simp
            first | rfl | exact ⟨rfl, rfl⟩
          first | simp only [Act.put, List.setIfInBounds_toArray, List.set_cons_succ, List.set_cons_zero] | skip
          apply L.rd (i := 8) rfl (by kernel_rfl) hC rfl
          · intro W hW
            skip
            unfold readW
            go_simp
            first | rfl | exact ⟨rfl, rfl⟩
          first | simp only [Act.put, List.setIfInBounds_toArray, List.set_cons_succ, List.set_cons_zero] | skip
          have hns := (NmIs.look hC.map HNM.out).2
          apply L.one (i := 9) rfl (by kernel_rfl) rfl
          unfold stepT
          go_simp
          go_at_call 73
          refine (HC1.out _ hC.map hI.bel).mono ?_
          rintro e wn ⟨⟨rc, rfl, hF⟩, hbn⟩
          have hC := hC.below hbn
          have hI := hI.below hbn
          have hbase2 := Nat.le_trans hbase1 hbn.size
          clear hbn
          have hrc := ex_one' hF.is
          obtain ⟨k1, a1, b1, c1, d1, t1, A1, n1, cp1, rfl⟩ := Ex.parts _ hF.is
          refine ⟨_, rfl, hC, ?_⟩
          first | simp only [Act.put, List.setIfInBounds_toArray, List.set_cons_succ, List.set_cons_zero] | skip
          apply L.rd (i := 10) rfl (by kernel_rfl) hC rfl
          · intro W hW
            skip
            unfold readW
            go_simp
            first | rfl | exact ⟨rfl, rfl⟩
          first | simp only [Act.put, List.setIfInBounds_toArray, List.set_cons_succ, List.set_cons_zero] | skip
          apply L.one (i := 11) rfl (by kernel_rfl) rfl
          unfold stepT
          go_simp
          have hF1 := (hF.keep (W' := wn.alloc (.cells #[.string (lkD D nm), .int .i64 k1, .int .u64 a1, .int .u64 b1, .int .u64 c1, .int .u64 d1, .string t1, .slice A1 n1 cp1] 96)) fun p hp => World.cell?_alloc_lt wn _ p hp.2).mono (S' := fun b => wd.heap.size ≤ b ∧ b < (wn.alloc (.cells #[.string (lkD D nm), .int .i64 k1, .int .u64 a1, .int .u64 b1, .int .u64 c1, .int .u64 d1, .string t1, .slice A1 n1 cp1] 96)).heap.size) (fun b hb => ⟨hb.1, by simp; omega⟩) (hi' := (wn.alloc (.cells #[.string (lkD D nm), .int .i64 k1, .int .u64 a1, .int .u64 b1, .int .u64 c1, .int .u64 d1, .string t1, .slice A1 n1 cp1] 96)).heap.size) (by simp)
          have hkb : Blk (wn.alloc (.cells #[.string (lkD D nm), .int .i64 k1, .int .u64 a1, .int .u64 b1, .int .u64 c1, .int .u64 d1, .string t1, .slice A1 n1 cp1] 96)) wn.heap.size 96 #[.string (lkD D nm), .int .i64 k1, .int .u64 a1, .int .u64 b1, .int .u64 c1, .int .u64 d1, .string t1, .slice A1 n1 cp1] := blk_at rfl
          have hC := hC.below ((Below.refl _ _).alloc (Nat.le_refl _) (.cells #[.string (lkD D nm), .int .i64 k1, .int .u64 a1, .int .u64 b1, .int .u64 c1, .int .u64 d1, .string t1, .slice A1 n1 cp1] 96))
          have hI := hI.below ((Below.refl _ _).alloc (Nat.le_refl _) (.cells #[.string (lkD D nm), .int .i64 k1, .int .u64 a1, .int .u64 b1, .int .u64 c1, .int .u64 d1, .string t1, .slice A1 n1 cp1] 96))
          have hbase3 : ws.heap.size + 1 ≤ (wn.alloc (.cells #[.string (lkD D nm), .int .i64 k1, .int .u64 a1, .int .u64 b1, .int .u64 c1, .int .u64 d1, .string t1, .slice A1 n1 cp1] 96)).heap.size := by simp; omega
          generalize (wn.alloc (.cells #[.string (lkD D nm), .int .i64 k1, .int .u64 a1, .int .u64 b1, .int .u64 c1, .int .u64 d1, .string t1, .slice A1 n1 cp1] 96)) = wk at hC hI hkb hF1 hbase3 ⊢
          generalize wn.heap.size = rb at hkb ⊢
          clear hF hbase2
          refine ⟨hC, ?_⟩
          apply L.one (i := 12) rfl (by kernel_rfl) rfl
          refine stepT_append_at (.tmp 41) (.tmp 51) 22 rfl (ws.heap.size + 1) 96 i0 _ 8 96 Try.underlying22 hi0 hz0 hz1 hz2 rfl (by decide) (.slice V j c) j (ruF ((g.take j).map fun r => (lkD D r.1, rnE (lkD D) r.2)) rows 0) (by simp [Act.eval]) (by have h1 := hI.rus.own; rw [hll] at h1; exact h1) ⟨rb, 0, none⟩ 1 1 (.string (lkD D nm) :: [.int .i64 k1, .int .u64 a1, .int .u64 b1, .int .u64 c1, .int .u64 d1, .string t1, .slice A1 n1 cp1]) (by simp [Act.eval]) rfl (fun i u hu => by rw [cell_add]; exact (hkb.cell i).trans (by rw [List.getElem?_toArray]; exact hu)) (fun u hu => by rcases List.mem_cons.1 hu with rfl | hu; rfl; exact hrc u hu) (by unfold maxLen; omega) (by omega) hbase3 ?_
          intro v' w3 hown hgr hat
          obtain ⟨V3, c3, rfl⟩ := own_form hown
          have hI3 := hI.push HEJ.out hbase1 hold1 hns hF1 hown hgr hat
          have hC := hC.grown hgr hone hkne hmne
          refine ⟨fun _ => hC, ?_⟩
          first | simp only [Act.put, List.setIfInBounds_toArray, List.set_cons_succ, List.set_cons_zero] | skip
          apply L.rd (i := 13) rfl (by kernel_rfl) hC rfl
          · intro W hW
            skip
            unfold readW
            go_simp
            first | rfl | exact ⟨rfl, rfl⟩
          first | simp only [Act.put, List.setIfInBounds_toArray, List.set_cons_succ, List.set_cons_zero] | skip
          have n0 := hC.out.cell 0
          have f0 := hC.out.frozen 0
          apply L.one (i := 14) rfl (by kernel_rfl) rfl
          unfold stepT
          go_simp
          refine L.done (by kernel_rfl) ?_
          have HI3 := Lib.hid hI3
          clear hI hI3 hC hown hgr hkb n0 f0 hat hF1 hold1 hbase1 hbase3 hkne hone hll hmne hns
          go_wp2
          go_roundw
          case rel => exact ⟨j + 1, by omega, by go_num, _, _, _, HI3.out⟩
          case measure => simp [intOf]; omega
        · obtain rfl : j = g.length := by omega
          have hgr := hI.rus.gr
          rw [List.take_length] at hgr
          have hrs3 := hI.res
          have z0 := hrs3.cell 0
          have f0 := hrs3.frozen 0
          simp at z0
          have o0 : wr.cell? ⟨ws.heap.size, 0, none⟩ = some (.slice V g.length c) := hI.out.cell 0
          have q0 : (wr.setCell ⟨w.heap.size + 1, 0, none⟩ (.slice V g.length c)).cell? ⟨w.heap.size + 1, 0, none⟩ = some (.slice V g.length c) := (hrs3.set_ 0 _).cell 0
          have hsz : (wr.setCell ⟨w.heap.size + 1, 0, none⟩ (.slice V g.length c)).heap.size = wr.heap.size := by simp [World.setCell]
          have hG : GrIs (wr.setCell ⟨w.heap.size + 1, 0, none⟩ (.slice V g.length c)) (wr.setCell ⟨w.heap.size + 1, 0, none⟩ (.slice V g.length c)).heap.size (rnG g) V c rows := by
            refine HMX.out _ _ _ _ ?_
            rw [hsz]
            exact (hgr.keep fun p hp => World.cell?_setCell_other wr _ p _ (by rintro rfl; have := hp.1; simp at this; omega)).is
          have HG2 := Lib.hid hG
          clear hI hgr hG
          go_wp2
          exact bodyPost_ret (v := .agg #[.slice V g.length c]) (by simp [results, Try.results37, go_sem, q0]) rfl ⟨(by repeat (first | exact Below.refl _ _ | assumption | refine Below.drew ?_ | refine below_drewN ?_ _ | refine Below.alloc ?_ (by first | omega | (simp; omega) | simp) _ | refine Below.setCell ?_ (by first | omega | (simp; omega) | simp) _)), V, c, rows, rfl, HG2.out⟩
end Go.Proofs.Ytkmcnekjimobhaa
