/- The walk of the law BookTells. -/
import Derived.Test.YtjmckmjngnmagaaBkB
import Derived.Test.YtjmckmjngnmagaaWgB
namespace Go.Proofs.Ytjmckmjngnmagaa
open Go.RowKit Go.Maps

def xG : List Rl := [(nameA, litE ⟨#[120]⟩)]
theorem x_well : wellG xG = (0, 0) := by decide +kernel
theorem x_case : bchkC [(2, 0, ⟨#[121]⟩)] = 0 := by decide +kernel
theorem x_ev : Sem xG (⟨#[121]⟩ : ByteArray).data.toList (litE ⟨#[120]⟩) 0 none := ⟨3, by decide +kernel⟩
theorem x_tell : tellB xG (2, 0, ⟨#[121]⟩) = true := by
  have h1 : outG xG ⟨#[121]⟩ = none := outG_is (r := (nameA, litE ⟨#[120]⟩)) rfl x_ev
  unfold tellB accG
  rw [h1]
  simp
theorem bown_new {w : World} {base : Nat} {e : TypeId} {size n c : Nat} {cs : Array Value} {xs : List Value} {g : Nat} (hb : Blk w g e cs) (hg : base ≤ g) (hx : cs.toList = xs) (hn : xs.length = n * size) (hnc : n ≤ c) (hcs : cs.size = c * size) (hm : c ≤ maxLen) :
    w.ownsRow base e size (.slice (some ⟨g, 0, none⟩) n c) n xs :=
  ⟨hn, .inr ⟨g, c, cs, rfl, hg, hb, hnc, hm, hcs, by rw [hx, List.take_of_length_le (by omega)]⟩⟩
theorem case_info : (Try.prog.info? 90).map (fun i => (i.zero, i.size, i.bytes)) = some (some (.agg #[.int .i64 0, .int .i64 0, .string ⟨#[]⟩]), 3, 32) := by kernel_rfl
/-- the cases that are asked -/
def askL (s : ByteArray) (j : Nat) : List Cs := (1, 0, s) :: (2, 0, s) :: (List.range j).map fun (k : Nat) => ((4 : Int), ((k : Nat) : Int), s)
theorem askL_len (s : ByteArray) (j : Nat) : (askL s j).length = j + 2 := by simp [askL]
theorem askL_succ (s : ByteArray) (j : Nat) : askL s (j + 1) = askL s j ++ [(4, (j : Int), s)] := by simp [askL, List.range_succ]
theorem caseC_snoc (l : List Cs) (c : Cs) : caseC (l ++ [c]) = caseC l ++ c.vals := by simp [caseC]
theorem chk_all : ∀ {l : List Cs}, (∀ c ∈ l, fitC c = 0) → chkC l = 0
  | [], _ => rfl
  | c :: l, h => by rw [chkC, if_neg (by simp [h c (by simp)])]; exact chk_all fun x hx => h x (by simp [hx])
theorem ask_ok {s : ByteArray} (h : s.size ≤ 60) {j : Nat} (hj : j ≤ 30) (hs : j ≤ s.size + 1) : bchkC (askL s j) = 0 := by
  unfold bchkC
  rw [if_neg (by rw [askL_len]; omega)]
  refine chk_all fun c hc => ?_
  simp only [askL, List.mem_cons, List.mem_map, List.mem_range] at hc
  rcases hc with rfl | rfl | ⟨k, hk, rfl⟩
  · simp [fitC]; omega
  · simp [fitC]; omega
  · simp [fitC]; omega
theorem ask_60 {s : ByteArray} {j : Nat} (h : bchkC (askL s j) = 0) : s.size ≤ 60 := by
  unfold bchkC at h
  split at h
  · omega
  · exact fit_60 (c := (1, 0, s)) (chk_fit h _ (by simp [askL]))
/-- as many of the first beginnings as hold -/
def cntO (o : Option Nat) (j : Nat) : Nat := match o with
  | some m => if m < j then 1 else 0
  | none => 0
theorem cnt_yes {o : Option Nat} {j : Nat} (h : (o.isSome && decide (((o.getD 0 : Nat) : Int) = (j : Int))) = true) : cntO o (j + 1) = cntO o j + 1 := by
  cases o with
  | none => simp at h
  | some m =>
    simp at h
    obtain rfl : m = j := by omega
    simp [cntO]
theorem cnt_no {o : Option Nat} {j : Nat} (h : (o.isSome && decide (((o.getD 0 : Nat) : Int) = (j : Int))) = false) : cntO o (j + 1) = cntO o j := by
  cases o with
  | none => rfl
  | some m =>
    simp at h
    simp only [cntO]
    by_cases h1 : m < j
    · rw [if_pos h1, if_pos (by omega)]
    · rw [if_neg h1, if_neg (by omega)]
theorem cnt_le (o : Option Nat) (j : Nat) : cntO o j ≤ 1 := by
  unfold cntO
  split
  · split <;> omega
  · omega

theorem add_off (F i : Nat) : (⟨F, 0, none⟩ : Addr).add i = ⟨F, i, none⟩ := by
  cases i with
  | zero => rfl
  | succ i => simp [Addr.add]
theorem ask_get (s : ByteArray) {j k : Nat} (h : k < j) : (askL s j)[k + 2]? = some (4, (k : Int), s) := by simp [askL, h]
theorem ask_cells {w : World} {B F j : Nat} {g : List Rl} {s : ByteArray} (h : Reads w B 1 (some ⟨F, 0, none⟩) (j + 2) (bools ((askL s j).map (tellB g)))) :
    F < B ∧ w.cell? ⟨F, 0, none⟩ = some (.bool (accG g s)) ∧ w.cell? ⟨F, 1, none⟩ = some (.bool (!accG g s)) ∧ ∀ k, k < j → w.cell? ⟨F, k + 2, none⟩ = some (.bool ((outG g s).isSome && decide ((((outG g s).getD 0 : Nat) : Int) = (k : Int)))) := by
  obtain ⟨ad, hA, hlt, hc⟩ := h.lies (by omega)
  injection hA with hA
  subst hA
  have hx : ∀ i c, (askL s j)[i]? = some c → w.cell? ⟨F, i, none⟩ = some (.bool (tellB g c)) := fun i c hi => by
    rw [← add_off]
    exact hc i _ (by simp [bools, hi])
  refine ⟨hlt, ?_, ?_, fun k hk => ?_⟩
  · rw [hx 0 _ rfl]; simp [tellB]
  · rw [hx 1 _ rfl]; simp [tellB]
  · rw [hx _ _ (ask_get s hk)]; simp [tellB]

theorem slice_2 {F n j c : Nat} (hn : n = j + 2) (hc : n ≤ c) (hj : 0 < j) (w : World) : (Instr.slice 78 (.slice (some ⟨F, 0, none⟩) n c) (some (.int .i64 2)) none none).run Try.prog w = .ok (.slice (some ⟨F, 2, none⟩) j (c - 2)) w := by
  have hE : Try.prog.elem 78 = 4 := by kernel_rfl
  have hs := Try.sizeOf4
  have hu : Try.prog.underlying 78 = some (.slice (Try.prog.elem 78)) := by kernel_rfl
  rw [run_slice_l w 78 _ n c hu .i64 2 (by omega) (by omega), hE]
  simp [hs, sliced, Result.andThen, show ¬ c = 2 by omega, hn, Addr.add]

set_option maxRecDepth 100000 in
set_option maxHeartbeats 8000000 in
theorem walk_BookTells {g : List Rl} {A : Option Addr} {cp : Nat} {row : Nat → List Value} (s : ByteArray) (w : World) (h : GrIs w w.heap.size g A cp row) (hwf : ∀ r ∈ g, WfE r.2) (hs : s.size ≤ 9223372036854775806) :
    Calls Try.prog 13 #[.agg #[.slice A g.length cp], .string s] w fun e w' => e = .returned (.bool true) ∧ Below w.heap.size w w' := by
  have hlit := lit_b ⟨#[120]⟩
  have hone := fun W => one_b (litE ⟨#[120]⟩) _ W (litE_is W ⟨#[120]⟩ (by decide))
  have hbr := fun W (hW : Below w.heap.size w W) (LA : Option Addr) (n c : Nat) (l : List Cs) => brun_any (l := l) (LA := LA) (n := n) (c := c) (h.grow hW) hwf
  have hrn := fun W (hW : Below w.heap.size w W) => run_any (h.grow hW) hwf s
  obtain ⟨i0, hi0, hz0, hz1, hz2⟩ := info_parts case_info
  unfold exCells at hlit hone
  obtain ⟨nC, hnC⟩ : ∃ nC : Nat, nC = min (s.size + 1) 30 := ⟨_, rfl⟩
  have hwrap : (s.size : Int) + 1 < 9223372036854775808 := by omega
  have hn30 : nC ≤ 30 := by omega
  have HBR := Lib.hid hbr
  have HRN := Lib.hid hrn
  have HL := Lib.hid hlit
  have HO := Lib.hid hone
  have HWF := Lib.hid hwf
  have HNC := Lib.hid hnC
  clear hlit hone hbr hrn h hwf hnC
  go_enter Try.func13, Try.ntmps13
  go_wp2_with fail
  refine (HL.out _).mono ?_
  rintro e w1 ⟨rfl, hb1⟩
  have hgx : Blk w1 w.heap.size 24 #[.slice A g.length cp] := (blk_at rfl).below hb1 (by simp)
  have hw1 : Below w.heap.size w w1 := ((Below.refl _ w).alloc (Nat.le_refl _) _).trans (hb1.mono (by simp))
  clear hb1
  go_wp2_with fail
  refine (HO.out _).mono ?_
  rintro e w3 ⟨b, rfl, hG, hb3⟩
  have hgx3 := hgx.below hb3 hgx.lt
  have hw3 := hw1.trans (hb3.mono hw1.size)
  have hz3 := hw3.size
  have hgl3 := hgx3.lt
  clear hb3 hgx hw1
  have hbx := fun (W : World) (hW : Below w3.heap.size w3 W) (b' : Nat) (hb' : Blk W b' 90 #[.int .i64 2, .int .i64 0, .string ⟨#[121]⟩]) => brun_any (l := [(2, 0, ⟨#[121]⟩)]) (LA := some ⟨b', 0, none⟩) (n := 1) (c := 1) (hG.grow hW) (wf_g1 (wf_lit _)) ⟨rfl, fun _ => ⟨⟨b', 0, none⟩, rfl, hb'.lt, fun i x hi => by
    match i, hi with
    | 0, hi => cases hi; exact hb'.cell 0
    | 1, hi => cases hi; exact hb'.cell 1
    | 2, hi => cases hi; exact hb'.cell 2⟩⟩ rfl
  have HBX := Lib.hid hbx
  clear hbx hG
  go_wp2_with fail
  refine (HBX.out _ ((Below.refl _ _).alloc (Nat.le_refl _) _) _ (blk_at rfl)).mono ?_
  rintro e w4 ⟨hb4, hq⟩
  rcases hq with ⟨hc, _⟩ | ⟨_, hc, _⟩ | ⟨_, _, V, c, hV, rfl, hR⟩
  · exact absurd (by show (wellG xG).2 = 0; rw [x_well]) hc
  · exact absurd x_case hc
  have hR1 : Reads w4 w4.heap.size 1 V 1 (bools [true]) := by
    have h1 := x_tell
    unfold xG at h1
    simpa [h1] using hR
  obtain ⟨-, F, rfl⟩ := hV (by simp)
  have hgx4 := (hgx3.alloc (.cells #[.int .i64 2, .int .i64 0, .string ⟨#[121]⟩] 90)).below hb4 (by simp; omega)
  have hw4 : Below w.heap.size w w4 := (hw3.alloc hz3 _).trans (hb4.mono (by simp; omega))
  have hz4 := hw4.size
  have heq := fun (W : World) (hW : Below w4.heap.size w4 W) (b' : Nat) (hb' : Blk W b' 4 #[.bool true]) => equalB_one F b' true c W ((hR1.below hW).more hW.size) hb'
  have HE := Lib.hid heq
  have hgl4 := hgx4.lt
  clear hb4 hR hR1 hV heq hw3 hz3 hgx3 hgl3 HBX
  simp only [List.length_singleton]
  go_wp2_with fail
  refine (HE.out _ ((Below.refl _ _).alloc (Nat.le_refl _) _) _ (blk_at rfl)).mono ?_
  rintro e w5 ⟨rfl, d, rfl⟩
  have hw5 : Below w.heap.size w ((w4.alloc (.cells #[.bool true] 4)).drewN d) := (by repeat (first | exact Below.refl _ _ | assumption | refine Below.drew ?_ | refine below_drewN ?_ _ | refine Below.alloc ?_ (by first | omega | (simp; omega) | simp) _ | refine Below.setCell ?_ (by first | omega | (simp; omega) | simp) _))
  have hgx5 := (hgx4.alloc (.cells #[.bool true] 4)).drewN d
  generalize ((w4.alloc (.cells #[.bool true] 4)).drewN d) = w5 at hw5 hgx5 ⊢
  have hz5 := hw5.size
  have hgl5 := hgx5.lt
  have g5 : w5.cell? ⟨w.heap.size, 0, none⟩ = some (.slice A g.length cp) := hgx5.cell 0
  clear HE hw4 hz4 hgx4 hgl4
  rcases Nat.lt_or_ge 30 (s.size + 1) with h30 | h30
  case' inl =>
    have hm : (30 : Int) < (s.size : Int) + 1 := by omega
    have hfin : ∀ j : Nat, nC ≤ j → ((j : Int) < 30) = False := fun j hj => by have := HNC.out; simp; omega
    go_wp2
  case' inr =>
    have hm : ((30 : Int) < (s.size : Int) + 1) = False := by simp; omega
    have hfin : ∀ j : Nat, nC ≤ j → ((j : Int) < (s.size : Int) + 1) = False := fun j hj => by have := HNC.out; simp; omega
    go_wp2
  all_goals
    have HFIN := Lib.hid hfin
    clear hfin hm
    go_loopw [7, 41] (fun v i wr => ∃ j : Nat, j ≤ nC ∧ i = .int .i64 j ∧ Hid (wr.ownsRow w5.heap.size 90 3 v (j + 2) (caseC (askL s j))) ∧ Below w.heap.size w wr ∧ Blk wr w.heap.size 24 #[.slice A g.length cp] ∧ w5.heap.size ≤ wr.heap.size) (fun _ i _ => nC - (intOf i).toNat)
    case atStart => exact ⟨0, by omega, rfl, bown_new (blk_at rfl) (Nat.le_refl _) rfl rfl (by decide) rfl (by decide), (by repeat (first | exact Below.refl _ _ | assumption | refine Below.drew ?_ | refine below_drewN ?_ _ | refine Below.alloc ?_ (by first | omega | (simp; omega) | simp) _ | refine Below.setCell ?_ (by first | omega | (simp; omega) | simp) _)), hgx5.alloc _, by simp⟩
    case round =>
      obtain ⟨j, hj, rfl, HOW, hwr, hgx, h5r⟩ := hrel
      have hzr := hwr.size
      have hgl := hgx.lt
      obtain ⟨V, c2, rfl⟩ := own_form HOW.out
      by_cases hjn : j < nC
      · have c1 : (j : Int) < 30 := by omega
        have c2' : (j : Int) < (s.size : Int) + 1 := by have := HNC.out; omega
        go_wp2_with (at_builtin; refine wpList_append_own _ rfl _ _ _ rfl w5.heap.size 90 i0 _ 3 32 Try.underlying91 hi0 hz0 hz1 hz2 rfl (by decide) _ _ _ rfl (HOW.out.alloc _) ⟨wr.heap.size, 0, none⟩ 1 1 [.int .i64 4, .int .i64 j, .string s] rfl rfl (new_cells wr 90 [.int .i64 4, .int .i64 j, .string s]) (by simp [Value.oneCell']) (by unfold maxLen; omega) (by omega) (by simp; omega) ?_; intro v' w6 hown6 hgr6 _; obtain ⟨V6, c6, rfl⟩ := own_form hown6)
        have hw6 : Below w.heap.size w w6 := below_app (hwr.alloc hzr _) (HOW.out.alloc _) hgr6 (by simp; omega) (by omega)
        have hgx6 := (hgx.alloc (.cells #[.int .i64 4, .int .i64 j, .string s] 90)).grown hgr6 (own_ne HOW.out (by omega))
        have h6 := hgr6.size
        rw [show caseC (askL s j) ++ [.int .i64 4, .int .i64 j, .string s] = caseC (askL s (j + 1)) by rw [askL_succ, caseC_snoc]; rfl, show j + 2 + 1 = j + 1 + 2 by omega] at hown6
        simp only [World.size_alloc] at h6
        go_roundw
        case rel => exact ⟨j + 1, by omega, by go_num, hown6, hw6, hgx6, by omega⟩
        case measure => simp [intOf]; omega
      · obtain rfl : j = nC := by omega
        have hend := HFIN.out j (Nat.le_refl _)
        have hrd := Reads.of_own HOW.out
        have hq := HBR.out wr hwr V (j + 2) c2 (askL s j) hrd (askL_len s j)
        have HQ := Lib.hid hq
        have g0 : wr.cell? ⟨w.heap.size, 0, none⟩ = some (.slice A g.length cp) := hgx.cell 0
        clear hrd hq HOW g5 HFIN
        go_wp2_with fail
        refine HQ.out.mono ?_
        rintro e w7 ⟨hb7, hq⟩
        have hgx7 := hgx.below hb7 hgl
        have hw7 := hwr.trans (hb7.mono hzr)
        have hz7 := hw7.size
        clear hb7 hgx g0 HQ
        rcases hq with ⟨hc, rfl⟩ | ⟨hwl, hc, rfl⟩ | ⟨hwl, hc, V7, c7, hV, rfl, hR⟩
        · generalize (wellG g).2 = y at hc ⊢
          have hyb : (y != 0) = true := by rw [bne_iff_ne]; exact hc
          clear hc
          go_wp2
          go_ret
          exact ⟨rfl, hw7⟩
        · generalize bchkC (askL s j) = y at hc ⊢
          have hyb : (y != 0) = true := by rw [bne_iff_ne]; exact hc
          clear hc hwl
          go_wp2
          go_ret
          exact ⟨rfl, hw7⟩
        · obtain ⟨hc7, F7, rfl⟩ := hV (by simp [askL])
          rw [askL_len] at hc7
          rw [askL_len] at hR ⊢
          have h60 := ask_60 hc
          have hl0 : lookG g s = 0 := by
            unfold lookG
            rw [if_neg (by rw [hwl]; simp), if_neg (by omega)]
          obtain ⟨hF7, q0, q1, q2⟩ := ask_cells hR
          have HC2 := Lib.hid q2
          have HL0 := Lib.hid hl0
          have hyy : ∀ y : Bool, (y == !y) = false := fun y => by cases y <;> rfl
          have hyq := hyy (accG g s)
          generalize accG g s = y at q0 q1 hyq
          clear hR hc hwl q2 hl0 hV hyy
          obtain ⟨n, hn⟩ : ∃ n, n = j + 2 := ⟨_, rfl⟩
          rw [← hn]
          have hj0 : (0 : Int) < (n : Int) := by omega
          have hj1 : (1 : Int) < (n : Int) := by omega
          have hj2 : (2 : Int) ≤ (n : Int) := by omega
          have hj3 : 2 ≤ n := by omega
          have hjp : 0 < j := by have := HNC.out; omega
          have hsl := slice_2 (F := F7) (c := c7) hn (by omega) hjp
          have HNN := Lib.hid hn
          clear hn
          go_wp2
          go_quiet (fail)
          have g7 : (w7.drewN nq).cell? ⟨w.heap.size, 0, none⟩ = some (.slice A g.length cp) := (hgx7.drewN nq).cell 0
          go_wp2
          clear hsl hyq q0 q1 hj0 hj1 hj2 hj3 hend hwrap h5r hj hjn hgl hzr
          go_loopw [11, 79] (fun m i wr => ∃ k : Nat, k ≤ j ∧ i = .int .i64 k ∧ m = .int .i64 (cntO (outG g s) k : Nat) ∧ wr = w7.drewN nq) (fun _ i _ => j - (intOf i).toNat)
          case atStart => exact ⟨0, by omega, rfl, by cases outG g s <;> rfl, rfl⟩
          case round =>
            obtain ⟨k, hk, rfl, rfl, rfl⟩ := hrel
            have hcl := cnt_le (outG g s) k
            by_cases hkj : k < j
            · have hck := HC2.out k hkj
              rw [show k + 2 = 2 + k by omega] at hck
              have hki : (k : Int) < (j : Int) := by omega
              have HCN := Lib.hid (fun h => cnt_yes (o := outG g s) (j := k) h)
              have HCM := Lib.hid (fun h => cnt_no (o := outG g s) (j := k) h)
              generalize ((outG g s).isSome && decide ((((outG g s).getD 0 : Nat) : Int) = (k : Int))) = b at hck HCN HCM
              generalize hm : cntO (outG g s) k = m at hcl HCN HCM
              have HM := Lib.hid hm
              clear hm
              cases b with
              | true =>
                go_wp2
                go_roundw
                case rel => exact ⟨k + 1, by omega, by go_num, by rw [HCN.out rfl]; go_num, trivial⟩
                case measure => simp [intOf]; omega
              | false =>
                go_wp2
                go_roundw
                case rel => exact ⟨k + 1, by omega, by go_num, by rw [HCM.out rfl], trivial⟩
                case measure => simp [intOf]; omega
            · obtain rfl : k = j := by omega
              have hrn := HRN.out (w7.drewN nq) (by repeat (first | exact Below.refl _ _ | assumption | refine Below.drew ?_ | refine below_drewN ?_ _ | refine Below.alloc ?_ (by first | omega | (simp; omega) | simp) _ | refine Below.setCell ?_ (by first | omega | (simp; omega) | simp) _))
              have HR := Lib.hid hrn
              have hki : ((k : Int) < (k : Int)) = False := by simp
              clear hrn HC2
              go_wp2_with fail
              refine HR.out.mono ?_
              rintro e w8 ⟨hb8, hq⟩
              have hw8 : Below w.heap.size w w8 := (show Below w.heap.size w (w7.drewN nq) from (by repeat (first | exact Below.refl _ _ | assumption | refine Below.drew ?_ | refine below_drewN ?_ _ | refine Below.alloc ?_ (by first | omega | (simp; omega) | simp) _ | refine Below.setCell ?_ (by first | omega | (simp; omega) | simp) _))).trans (hb8.mono (by simpa using hz7))
              have hz8 := hw8.size
              rcases hq with ⟨hne, rfl⟩ | ⟨-, o, σ1, V8, lc, l', ⟨m8, hpk⟩, ha, ht8, hl8, rfl, ho8⟩
              · exact absurd HL0.out hne
              obtain ⟨h1, h2⟩ := run_out HL0.out hpk
              rw [h1] at hcl ⊢
              clear ha ht8 hl8 ho8 hpk h1 hb8
              rw [outV_eq]
              generalize σ1.log.length = ll
              cases o with
              | none =>
                have hm : cntO none k = 0 := rfl
                rw [hm]
                go_wp2
                go_ret
                exact ⟨rfl, (by repeat (first | exact Below.refl _ _ | assumption | refine Below.drew ?_ | refine below_drewN ?_ _ | refine Below.alloc ?_ (by first | omega | (simp; omega) | simp) _ | refine Below.setCell ?_ (by first | omega | (simp; omega) | simp) _))⟩
              | some q =>
                have hqs := h2 q rfl
                simp only [Option.isSome_some, Option.getD_some]
                by_cases hq30 : q < 30
                · have hm : cntO (some q) k = 1 := by unfold cntO; simp; have := HNC.out; omega
                  have hqi : (q : Int) < 30 := by omega
                  rw [hm]
                  go_wp2
                  go_ret
                  exact ⟨rfl, (by repeat (first | exact Below.refl _ _ | assumption | refine Below.drew ?_ | refine below_drewN ?_ _ | refine Below.alloc ?_ (by first | omega | (simp; omega) | simp) _ | refine Below.setCell ?_ (by first | omega | (simp; omega) | simp) _))⟩
                · have hm : cntO (some q) k = 0 := by unfold cntO; simp; have := HNC.out; omega
                  have hqi : ((q : Int) < 30) = False := by simp; omega
                  rw [hm]
                  clear hq30 hqs h2 hcl hm hki
                  go_wp2
                  go_ret
                  exact ⟨rfl, (by repeat (first | exact Below.refl _ _ | assumption | refine Below.drew ?_ | refine below_drewN ?_ _ | refine Below.alloc ?_ (by first | omega | (simp; omega) | simp) _ | refine Below.setCell ?_ (by first | omega | (simp; omega) | simp) _))⟩
end Go.Proofs.Ytjmckmjngnmagaa
