/- PackMisses: is there a node of kind ENot? slices.ContainsFunc over nodes; plain facts. -/
import Derived.Test.YtlamphneimpdlaaNdB
import Derived.Test.YtlamphneimpdlaaFrA
namespace Go.Proofs.Ytlamphneimpdlaa
open Go.RowKit

def kindN : Ex → Int
  | .mk k _ _ _ _ _ _ => k
def notE (e : Ex) : Bool := (preD e 1).any fun x => kindN x.1 == 11
theorem preDs_mem {ks : List Ex} {dp : Nat} {e : Ex} (he : e ∈ ks) {x : Ex × Nat} (hx : x ∈ preD e dp) : x ∈ preDs ks dp := by
  rw [preDs_map, List.mem_flatMap]
  exact ⟨(e, dp), List.mem_map.2 ⟨e, he, rfl⟩, hx⟩
/-- where no node is of kind 11 -/
theorem noNot_of {g : List Rl} {e : Ex} (h : Rt g e) : ∀ dp, (∀ x ∈ preD e dp, kindN x.1 ≠ 11) → NoNot e := by
  induction h with
  | mk k a b c d t ks hf _ _ ih =>
    intro dp hx
    refine .mk k a b c d t ks (hx (.mk k a b c d t ks, dp) (by rw [preD]; simp)) (fun h6 => ?_) fun e he => ih e he (dp + 1) fun x hm => hx x ?_
    · rintro rfl
      subst h6
      rcases fit_cases hf with x | x | x | x | x | x | x <;> simp at x
    · rw [preD]
      exact List.mem_cons_of_mem _ (preDs_mem he hm)
theorem noNot_g {g : List Rl} {e : Ex} (h : Rt g e) (hn : notE e = false) : NoNot e := noNot_of h 1 fun x hx h11 => by
  unfold notE at hn
  rw [List.any_eq_false] at hn
  exact hn x hx (by simp [h11])

set_option maxRecDepth 100000 in
theorem not1_any (k a b c d : Int) (t : ByteArray) (A : Option Addr) (n cp : Nat) (dp : Int) (w : World) :
    Calls Try.prog 50 #[.agg #[.int .i64 k, .int .u64 a, .int .u64 b, .int .u64 c, .int .u64 d, .string t, .slice A n cp, .int .i64 dp]] w fun r w' => r = .returned (.bool (k == 11)) ∧ Below w.heap.size w w' := by
  generalize hk : (k == 11) = x
  go_enter Try.func50, Try.ntmps50
  go_wp2
  go_ret
  exact ⟨by first | rfl | rw [hk], (by repeat (first | exact Below.refl _ _ | assumption | refine Below.drew ?_ | refine below_drewN ?_ _ | refine Below.alloc ?_ (by first | omega | (simp; omega) | simp) _ | refine Below.setCell ?_ (by first | omega | (simp; omega) | simp) _))⟩
set_option maxRecDepth 100000 in
set_option maxHeartbeats 4000000 in
theorem indexN_any {w0 : World} {l : List Nde} (hok : NdOk w0 l) {A : Option Addr} {cp base : Nat} {w : World} (h : w.ownsRow base 106 8 (.slice A l.length cp) l.length (ndF l)) (h60 : l.length ≤ 60) :
    Calls Try.prog 83 #[.slice A l.length cp, .func (.func 50) #[] #[]] w fun r w' => (∃ i : Int, r = .returned (.int .i64 i) ∧ (decide (0 ≤ i) = l.any fun x => kindN x.1 == 11)) ∧ Below w.heap.size w w' := by
  have hr := Reads.of_own h
  have HR0 := Lib.hid hr
  have HOK := Lib.hid hok
  clear h hr hok
  have HX : Hid ((l.any fun x => kindN x.1 == 11) = (l.drop 0).any fun x => kindN x.1 == 11) := rfl
  go_enter Try.func83, Try.ntmps83
  go_wp2
  go_loopw [5, 8] (fun _ i wr => ∃ j : Nat, j ≤ l.length ∧ i = .int .i64 j ∧ Hid ((l.any fun x => kindN x.1 == 11) = (l.drop j).any fun x => kindN x.1 == 11) ∧ Below w.heap.size w wr) (fun _ i _ => l.length - (intOf i).toNat)
  case atStart => exact ⟨0, by omega, rfl, HX, Below.refl _ _⟩
  case round =>
    obtain ⟨j, hj, rfl, HR, hwr⟩ := hrel
    have hwz := hwr.size
    by_cases hjn : j < l.length
    · obtain ⟨ad, rfl, hab, hcell⟩ := HR0.out.lies (by omega)
      obtain ⟨⟨x, dp, cs⟩, hej⟩ : ∃ r, l[j]? = some r := ⟨_, List.getElem?_eq_getElem hjn⟩
      have hE := HOK.out _ (List.mem_of_getElem? hej)
      cases x with
      | mk k a b c d t ks =>
      obtain ⟨_, A', cp', hcs, _⟩ := hE.shape
      simp only at hcs
      subst hcs
      have hk : ∀ u v, (ndC (.mk k a b c d t ks, dp, exCells k a b c d t A' ks.length cp'))[u]? = some v → wr.cell? ((ad.add (j * 8)).add u) = some v := fun u v hu => by
        rw [hwr.cell (by rw [add_block, add_block]; exact hab), add_add']
        exact hcell _ _ (ndF_get HOK.out hej hu)
      have y0 : wr.cell? (ad.add (j * 8)) = some (.int .i64 k) := hk 0 _ rfl
      have y1 : wr.cell? ⟨(ad.add (j * 8)).block, (ad.add (j * 8)).off + 1, none⟩ = some (.int .u64 a) := hk 1 _ rfl
      have y2 : wr.cell? ⟨(ad.add (j * 8)).block, (ad.add (j * 8)).off + 2, none⟩ = some (.int .u64 b) := hk 2 _ rfl
      have y3 : wr.cell? ⟨(ad.add (j * 8)).block, (ad.add (j * 8)).off + 3, none⟩ = some (.int .u64 c) := hk 3 _ rfl
      have y4 : wr.cell? ⟨(ad.add (j * 8)).block, (ad.add (j * 8)).off + 4, none⟩ = some (.int .u64 d) := hk 4 _ rfl
      have y5 : wr.cell? ⟨(ad.add (j * 8)).block, (ad.add (j * 8)).off + 5, none⟩ = some (.string t) := hk 5 _ rfl
      have y6 : wr.cell? ⟨(ad.add (j * 8)).block, (ad.add (j * 8)).off + 6, none⟩ = some (.slice A' ks.length cp') := hk 6 _ rfl
      have y7 : wr.cell? ⟨(ad.add (j * 8)).block, (ad.add (j * 8)).off + 7, none⟩ = some (.int .i64 dp) := hk 7 _ rfl
      have hcall := fun W => not1_any k a b c d t A' ks.length cp' dp W
      have HD : Hid (((l.drop j).any fun x => kindN x.1 == 11) = ((k == 11) || (l.drop (j + 1)).any fun x => kindN x.1 == 11)) := by show _ = _; rw [drop_of hej, List.any_cons]; rfl
      have HC := Lib.hid hcall
      clear hcall hk hE hej
      generalize (k == 11) = x at HC HD
      go_wp2_with fail
      refine (HC.out _).mono ?_
      rintro e w2 ⟨rfl, hb2⟩
      have hw2 : Below w.heap.size w w2 := hwr.trans (hb2.mono hwz)
      clear hb2
      cases x
      · go_wp2
        go_roundw
        case rel => exact ⟨j + 1, by omega, by go_num, HR.out.trans (by rw [HD.out, Bool.false_or]), hw2⟩
        case measure => simp [intOf]; omega
      · go_wp2
        go_ret
        exact ⟨⟨j, rfl, by rw [HR.out, HD.out]; simp⟩, hw2⟩
    · obtain rfl : j = l.length := by omega
      go_wp2
      go_ret
      exact ⟨⟨-1, rfl, by rw [HR.out, List.drop_length]; rfl⟩, hwr⟩
set_option maxRecDepth 100000 in
theorem containsN_any {w0 : World} {l : List Nde} (hok : NdOk w0 l) {A : Option Addr} {cp base : Nat} {w : World} (h : w.ownsRow base 106 8 (.slice A l.length cp) l.length (ndF l)) (h60 : l.length ≤ 60) :
    Calls Try.prog 48 #[.slice A l.length cp, .func (.func 50) #[] #[]] w fun r w' => r = .returned (.bool (l.any fun x => kindN x.1 == 11)) ∧ Below w.heap.size w w' := by
  have hi := indexN_any hok h h60
  have HI := Lib.hid hi
  clear hi h hok
  go_enter Try.func48, Try.ntmps48
  go_wp2_with fail
  refine HI.out.mono ?_
  rintro e w1 ⟨⟨i, rfl, hi⟩, hb1⟩
  have HIX := Lib.hid hi
  clear hi
  go_wp2
  go_ret
  exact ⟨ret_bool HIX.out, hb1⟩
theorem pk_one {g : List Rl} {s : List UInt8} {hook : Bool} {m m' : Nat} {j : PJob} {p : Nat} {σ : PS} {r r' : Option Nat × PS} (h : pk g s hook m j p σ = some r) (h' : pk g s hook m' j p σ = some r') : r = r' := by
  have h1 := pk_le h (Nat.le_max_left m m')
  rw [pk_le h' (Nat.le_max_right m m')] at h1
  injection h1 with h1
  exact h1.symm
def mxG : List Rl := [(nameA, litE ⟨#[120, 121]⟩)]
def mxS : ByteArray := ⟨#[120, 122]⟩
theorem mx_look : lookG mxG mxS = 0 := by decide +kernel
theorem mx_pk : (pk mxG [120, 122] false 4 (.rule 0) 0 ps0).map (fun x => (x.2.far, x.2.want.a, x.2.want.b, x.2.want.c, x.2.want.d)) = some (1, 0, 144115188075855872, 0, 0) := by decide +kernel
theorem mx_far {o : Option Nat} {σ1 : PS} {m : Nat} (h : pk mxG [120, 122] false m (.rule 0) 0 ps0 = some (o, σ1)) : σ1.far = 1 ∧ σ1.want.a = 0 ∧ σ1.want.b = 144115188075855872 ∧ σ1.want.c = 0 ∧ σ1.want.d = 0 := by
  have h1 := mx_pk
  cases hp : pk mxG [120, 122] false 4 (.rule 0) 0 ps0 with
  | none => rw [hp] at h1; cases h1
  | some r =>
    rw [hp] at h1
    obtain rfl := pk_one hp h
    simp only [Option.map_some, Option.some.injEq, Prod.mk.injEq] at h1
    exact h1
theorem mx_range : words (rangeL 121 1) = #[.int .u64 0, .int .u64 144115188075855872, .int .u64 0, .int .u64 0] := by
  rw [show rangeL 121 1 = [0, 144115188075855872, 0, 0] from by decide +kernel]
  rfl
theorem missI0 (s : List UInt8) : MissI s ps0 := ⟨noS_u, .inl ⟨rfl, rfl⟩⟩
theorem failI0 : FailI ps0 := fun k h => by cases h
/-- what Far tells -/
theorem far_facts {g : List Rl} {s : ByteArray} (hl : lookG g s = 0) (hwf : ∀ r ∈ g, WfE r.2) {o : Option Nat} {σ1 : PS} {m : Nat} (h : pk g s.data.toList false m (.rule 0) 0 ps0 = some (o, σ1)) :
    MissI s.data.toList σ1 ∧ ((∀ r ∈ g, notE r.2 = false) → o = none → 0 ≤ σ1.far) := by
  obtain ⟨W, _⟩ := look_zero hl
  refine ⟨pk_miss hwf m _ _ _ _ _ h (Nat.zero_le _) (bound0 _) trivial (missI0 _), fun hn ho => ?_⟩
  exact (pk_fail (fun r hr => noNot_g (W.right.rt r hr) (hn r hr)) m _ _ _ _ _ h trivial trivial failI0).2.1 ho
end Go.Proofs.Ytlamphneimpdlaa
