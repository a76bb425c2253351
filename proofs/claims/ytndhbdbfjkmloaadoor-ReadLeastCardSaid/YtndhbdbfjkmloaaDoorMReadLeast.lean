/- The walk of the law ReadLeast. How long a grammar that came in may be; an expression that came in, with its numbers' widths. The law ReadLeast: for every input it returns true, and each argument reads afterwards as it read before. The frame is written by a program of ours after the guide's own shell; the walk is in the text it imports. Conditions: none but the statement's own. -/
import Derived.Test.YtndhbdbfjkmloaaDoorJReadLeast15
import Derived.Test.YtndhbdbfjkmloaaDoorJReadLeast17
import Derived.Test.YtndhbdbfjkmloaaDoorJReadLeast9
import Derived.Test.YtndhbdbfjkmloaaDoorJReadLeast2
import Derived.Test.YtndhbdbfjkmloaaDoorRows
import Derived.Test.YtndhbdbfjkmloaaDoorTie
import Derived.Test.YtndhbdbfjkmloaaDoorCards
import Derived.LaidMore
import Derived.OpenShut
import Derived.Stop.Joined
import Derived.LaidHandle
import Derived.MakeChecks
import Derived.SevenTiedAt
namespace Go.Proofs.YtndhbdbfjkmloaaDoor
open Go.RowKit

/-- "(a b)*" -/
def starAB : Ex := ofN 7 [ofN 5 [refE ⟨#[97]⟩, refE ⟨#[98]⟩]]
theorem starAB_check : checkE starAB = 0 := by decide +kernel
theorem starAB_text : prT starAB = [40, 97, 32, 98, 41, 42] := by decide +kernel
theorem starAB_wf : WfE starAB := by
  have hz : ∀ {k : Int} {t : ByteArray}, 0 ≤ k ∧ k ≤ 11 → ∀ {ks : List Ex}, (∀ e ∈ ks, WfE e) → WfE (.mk k 0 0 0 0 t ks) := fun hk _ h => .mk _ _ _ _ _ _ _ (by unfold I64; omega) (by unfold U64; omega) (by unfold U64; omega) (by unfold U64; omega) (by unfold U64; omega) h
  refine hz (by omega) fun e he => ?_
  rw [List.mem_singleton.1 he]
  refine hz (by omega) fun e he => ?_
  simp at he
  rcases he with rfl | rfl <;> exact hz (by omega) fun e he => by cases he
theorem starAB_print (W : World) (hT : TabAt W) {b1 b2 : Nat} (h1 : Blk W b1 27 #[.int .i64 4, .int .u64 0, .int .u64 0, .int .u64 0, .int .u64 0, .string ⟨#[97]⟩, .slice none 0 0, .int .i64 4, .int .u64 0, .int .u64 0, .int .u64 0, .int .u64 0, .string ⟨#[98]⟩, .slice none 0 0])
    (h2 : Blk W b2 27 #[.int .i64 5, .int .u64 0, .int .u64 0, .int .u64 0, .int .u64 0, .string ⟨#[]⟩, .slice (some (Addr.mk b1 0 none)) 2 2]) :
    Calls Tryd.prog 12 #[.agg #[.int .i64 7, .int .u64 0, .int .u64 0, .int .u64 0, .int .u64 0, .string ⟨#[]⟩, .slice (some (Addr.mk b2 0 none)) 1 1]] W fun r w' => r = .returned (.tuple #[.string ⟨#[40, 97, 32, 98, 41, 42]⟩, .int .i64 0]) ∧ Below W.heap.size W w' := by
  have hE : ExIs W W.heap.size starAB (exCells 7 0 0 0 0 ⟨#[]⟩ (some ⟨b2, 0, none⟩) 1 1) := ex_one (ex_two (refE_is W ⟨#[97]⟩ (by decide)) (refE_is W ⟨#[98]⟩ (by decide)) h1 rfl 5) h2 rfl 7
  have := print_any starAB starAB_wf 7 0 0 0 0 ⟨#[]⟩ [ofN 5 [refE ⟨#[97]⟩, refE ⟨#[98]⟩]] (some ⟨b2, 0, none⟩) 1 W rfl hE hT
  refine this.mono fun r w' h => ?_
  unfold PrQ at h
  rw [starAB_text, starAB_check] at h
  exact h
theorem wrap_i64L (n : Int) (h1 : -9223372036854775808 ≤ n) (h2 : n ≤ 9223372036854775807) : IntKind.i64.wrap n = n := by
  unfold IntKind.wrap IntKind.signed IntKind.bits
  simp
  omega
theorem data_arrL (l : List UInt8) : (⟨l.toArray⟩ : ByteArray).data.toList = l := by simp
theorem byte_atL {S : ByteArray} {T : List UInt8} {i : Nat} {b : UInt8} (h : S.data.toList = T) (hi : i < S.size) (hc : bt S.data.toList i = b.toNat) : T[i]? = some b := by
  rw [← h, get_byte hi]
  congr 1
  exact UInt8.toNat_inj.1 ((bt_of hi).trans hc)
theorem parse_noneL {s : List UInt8} {p : Nat} {x : Int} (h : ParseR s none p x) : x ≠ 0 := by
  cases h with
  | large h1 => decide
  | syn l h1 h2 => decide
  | bad e l h1 h2 h3 => exact h3
set_option maxRecDepth 100000 in
set_option maxHeartbeats 4000000 in
theorem walk_ReadLeast (e : Ex) (ce : List Value) (w : World) (he : ExIs w w.heap.size e ce) (we : WfE e) (hTab : TabAt w) :
    Calls Tryd.prog 6 #[.agg ce.toArray] w fun r w' => r = .returned (.bool true) ∧ Below w.heap.size w w' := by
  obtain ⟨k, a, b, c, d, t, ks, A, cp, rfl, rfl⟩ : ∃ k a b c d t ks A cp, e = .mk k a b c d t ks ∧ ce = exCells k a b c d t A ks.length cp := by
    cases he with
    | mk k a b c d t ks A cp => exact ⟨k, a, b, c, d, t, ks, A, cp, rfl, rfl⟩
  have hpos := hTab.pos
  have HST := Lib.hid (fun W (hW : Below w.heap.size w W) => @starAB_print W (hTab.below hW hpos))
  have HPR := Lib.hid (fun W (hW : Below w.heap.size w W) => print_any (.mk k a b c d t ks) we k a b c d t ks A cp W rfl (he.grow hW) (hTab.below hW hpos))
  have HPS := Lib.hid (fun (s : ByteArray) (W : World) => parse_any s W)
  have HSM := Lib.hid (fun (f : Ex) (cf : List Value) (W : World) (hW : Below w.heap.size w W) (hf : ExIs W W.heap.size f cf) => samex_any (.mk k a b c d t ks) f _ cf W (he.grow hW) hf)
  have HRT := Lib.hid (fun (h : checkE (.mk k a b c d t ks) = 0) => rt_ofX we h)
  unfold exCells at HSM ⊢
  unfold PrQ prT at HPR
  generalize hex : (Ex.mk k a b c d t ks) = ex at HPR HSM HRT
  clear he we hTab hex
  go_enter Tryd.func6, Tryd.ntmps6
  go_wp2_with fail
  refine (HST.out _ ((((Below.refl _ _).alloc (Nat.le_refl _) _).alloc (by simp) _).alloc (by simp; omega) _) ((blk_at (by simp)).alloc _) (blk_at (by simp))).mono ?_
  rintro r w4 ⟨rfl, hb4'⟩
  have hb4 : Below w.heap.size w w4 := ((((Below.refl _ _).alloc (Nat.le_refl _) _).alloc (by simp) _).alloc (by simp; omega) _).trans (hb4'.mono (by simp; omega))
  have hbx4 : Blk w4 w.heap.size 27 #[.int .i64 k, .int .u64 a, .int .u64 b, .int .u64 c, .int .u64 d, .string t, .slice A ks.length cp] := (((blk_at rfl).alloc _).alloc _).below hb4' (by simp; omega)
  clear hb4' HST
  have x0 := hbx4.cell 0
  have x1 := hbx4.cell 1
  have x2 := hbx4.cell 2
  have x3 := hbx4.cell 3
  have x4 := hbx4.cell 4
  have x5 := hbx4.cell 5
  have x6 := hbx4.cell 6
  go_wp2_with fail
  refine (HPR.out _ hb4).mono ?_
  rintro r w5 ⟨rfl, hb5'⟩
  have hb5 := hb4.trans (hb5'.mono hb4.size)
  have hbx5 := hbx4.below hb5' hbx4.lt
  clear hb5' hb4 hbx4 x0 x1 x2 x3 x4 x5 x6
  by_cases h0 : checkE ex = 0
  · rw [if_pos h0, h0]
    have HLN : Hid ((⟨(txE ex).toArray⟩ : ByteArray).size = (txE ex).length) := sz_arr _
    have HDA : Hid ((⟨(txE ex).toArray⟩ : ByteArray).data.toList = txE ex) := data_arrL _
    have HNO : Hid (∀ (i k : Nat), i < k → (txE ex)[i]? = some 40 → (txE ex)[k]? = some 41 → ∀ (o : Option Ex) (p : Nat) (x : Int), ParseR (((txE ex).set i 32).set k 32) o p x → ¬ (x = 0 ∧ o = some ex)) := fun i k hik h hk o p x hP => least_parse (HRT.out h0) hik h hk hP
    generalize txE ex = T at HLN HDA HNO ⊢
    clear h0 HRT HPR
    generalize (⟨T.toArray⟩ : ByteArray) = S at HLN HDA ⊢
    rcases Nat.lt_or_ge 2000 S.size with hl | hl
    · have hgt : (2000 : Int) < (S.size : Int) := by omega
      go_wp2
      go_ret
      exact ⟨rfl, hb5⟩
    · have hgt : ¬ (2000 : Int) < (S.size : Int) := by omega
      have hmx : (S.size : Int) ≤ 2000 := by omega
      go_wp2
      go_loopw [7, 8, 9, 10, 11, 48] (fun _ _ _ _ _ i wr => ∃ j : Nat, j ≤ S.size ∧ i = .int .i64 j ∧ Below w.heap.size w wr ∧ Blk wr w.heap.size 27 #[.int .i64 k, .int .u64 a, .int .u64 b, .int .u64 c, .int .u64 d, .string t, .slice A ks.length cp]) (fun _ _ _ _ _ i _ => S.size - (intOf i).toNat)
      case atStart => exact ⟨0, by omega, rfl, hb5, hbx5⟩
      case round =>
        obtain ⟨i, hi, rfl, hbr, hxr⟩ := hrel
        by_cases hiS : i < S.size
        · have hii : (i : Int) < (S.size : Int) := by omega
          have hw2 : IntKind.i64.wrap ((i : Int) + 2) = ((i + 2 : Nat) : Int) := by rw [show (i : Int) + 2 = ((i + 2 : Nat) : Int) from by omega]; exact wrap_i64L _ (by omega) (by omega)
          have hw1 : IntKind.i64.wrap ((i : Int) + 1) = ((i + 1 : Nat) : Int) := by rw [show (i : Int) + 1 = ((i + 1 : Nat) : Int) from by omega]; exact wrap_i64L _ (by omega) (by omega)
          go_wp2
          go_loopw [8, 9, 10, 11] (fun v _ _ _ wq => ∃ m : Nat, i + 2 ≤ m ∧ m ≤ S.size + 2 ∧ v = .int .i64 m ∧ Below w.heap.size w wq ∧ Blk wq w.heap.size 27 #[.int .i64 k, .int .u64 a, .int .u64 b, .int .u64 c, .int .u64 d, .string t, .slice A ks.length cp]) (fun v _ _ _ _ => S.size + 2 - (intOf v).toNat)
          case atStart => exact ⟨i + 2, by omega, by omega, rfl, hbr, hxr⟩
          case round =>
            obtain ⟨m, hm1, hm2, rfl, hbq, hxq⟩ := hrel
            by_cases hmS : m < S.size
            · have hmi : (m : Int) < (S.size : Int) := by omega
              have hbi := bt_of hiS
              have hbm := bt_of hmS
              by_cases c40 : bt S.data.toList i = 40
              · by_cases c41 : bt S.data.toList m = 41
                · rename World => wq
                  have HTX : Hid (∀ (o : Option Ex) (p : Nat) (x : Int) (X : ByteArray), X = S.extract 0 i ++ ⟨#[32]⟩ ++ S.extract (i + 1) m ++ ⟨#[32]⟩ ++ S.extract (m + 1) S.size → ParseR X.data.toList o p x → ¬ (x = 0 ∧ o = some ex)) := fun o p x X hX hP => by
                    have h1 := cut_text S (i := i) (k := m) (by omega) hmS
                    rw [← hX, HDA.out] at h1
                    rw [h1] at hP
                    exact HNO.out i m (by omega) (byte_atL HDA.out hiS c40) (byte_atL HDA.out hmS c41) o p x hP
                  rw [c40] at hbi
                  rw [c41] at hbm
                  have hwm : IntKind.i64.wrap ((m : Int) + 1) = ((m + 1 : Nat) : Int) := by rw [show (m : Int) + 1 = ((m + 1 : Nat) : Int) from by omega]; exact wrap_i64L _ (by omega) (by omega)
                  clear HNO HLN
                  go_upto_region 14 with fail
                  refine wp_region_l (Below wq.heap.size wq) (fun i => i == 17 || i == 18 || i == 19 || i == 20 || i == 22 || i == 23 || i == 24) (by kernel_rfl) ?_
                  have hC : Below wq.heap.size wq wq.drew := (Below.refl _ _).drew
                  generalize wq.drew = wd at hC ⊢
                  obtain ⟨i1, hi1⟩ : ∃ i1, i + 1 = i1 := ⟨_, rfl⟩
                  obtain ⟨m1, hm1'⟩ : ∃ m1, m + 1 = m1 := ⟨_, rfl⟩
                  rw [hi1] at hw1 HTX
                  rw [hm1'] at hwm HTX
                  have hs1 : i ≤ S.size := by omega
                  have hs2 : i1 ≤ m := by omega
                  have hs3 : m ≤ S.size := by omega
                  have hs4 : m1 ≤ S.size := by omega
                  have HI1 := Lib.hid hi1
                  have HM1 := Lib.hid hm1'
                  clear hi1 hm1'
                  apply L.rdt (i := 0) rfl (by kernel_rfl) hC rfl
                  · intro W hW
                    skip
                    unfold readW
                    go_simp
                    first | rfl | exact ⟨rfl, rfl⟩
                  first | simp only [Act.put, List.setIfInBounds_toArray, List.set_cons_succ, List.set_cons_zero] | skip
                  apply L.rdt (i := 1) rfl (by kernel_rfl) hC rfl
                  · intro W hW
                    skip
                    unfold readW
                    go_simp
                    first | rfl | exact ⟨rfl, rfl⟩
                  first | simp only [Act.put, List.setIfInBounds_toArray, List.set_cons_succ, List.set_cons_zero] | skip
                  apply L.rdt (i := 2) rfl (by kernel_rfl) hC rfl
                  · intro W hW
                    skip
                    unfold readW
                    go_simp
                    first | rfl | exact ⟨rfl, rfl⟩
                  first | simp only [Act.put, List.setIfInBounds_toArray, List.set_cons_succ, List.set_cons_zero] | skip
                  apply L.rdt (i := 3) rfl (by kernel_rfl) hC rfl
                  · intro W hW
                    unfold readW
                    go_simp
                    have e32 : (⟨#[32]⟩ : ByteArray).size = 1 := rfl
                    rw [if_neg (by first | omega | (simp only [ByteArray.size_append, ByteArray.size_extract]; omega) | (simp; omega))]
                    exact ⟨rfl, rfl⟩
                  first | simp only [Act.put, List.setIfInBounds_toArray, List.set_cons_succ, List.set_cons_zero] | skip
                  apply L.rdt (i := 4) rfl (by kernel_rfl) hC rfl
                  · intro W hW
                    skip
                    unfold readW
                    go_simp
                    first | rfl | exact ⟨rfl, rfl⟩
                  first | simp only [Act.put, List.setIfInBounds_toArray, List.set_cons_succ, List.set_cons_zero] | skip
                  apply L.rdt (i := 5) rfl (by kernel_rfl) hC rfl
                  · intro W hW
                    skip
                    unfold readW
                    go_simp
                    first | rfl | exact ⟨rfl, rfl⟩
                  first | simp only [Act.put, List.setIfInBounds_toArray, List.set_cons_succ, List.set_cons_zero] | skip
                  apply L.rdt (i := 6) rfl (by kernel_rfl) hC rfl
                  · intro W hW
                    skip
                    unfold readW
                    go_simp
                    first | rfl | exact ⟨rfl, rfl⟩
                  first | simp only [Act.put, List.setIfInBounds_toArray, List.set_cons_succ, List.set_cons_zero] | skip
                  apply L.rdt (i := 7) rfl (by kernel_rfl) hC rfl
                  · intro W hW
                    skip
                    unfold readW
                    go_simp
                    first | rfl | exact ⟨rfl, rfl⟩
                  first | simp only [Act.put, List.setIfInBounds_toArray, List.set_cons_succ, List.set_cons_zero] | skip
                  apply L.rdt (i := 8) rfl (by kernel_rfl) hC rfl
                  · intro W hW
                    skip
                    unfold readW
                    go_simp
                    first | rfl | exact ⟨rfl, rfl⟩
                  first | simp only [Act.put, List.setIfInBounds_toArray, List.set_cons_succ, List.set_cons_zero] | skip
                  apply L.rdt (i := 9) rfl (by kernel_rfl) hC rfl
                  · intro W hW
                    unfold readW
                    go_simp
                    have e32 : (⟨#[32]⟩ : ByteArray).size = 1 := rfl
                    rw [if_neg (by first | omega | (simp only [ByteArray.size_append, ByteArray.size_extract]; omega) | (simp; omega))]
                    exact ⟨rfl, rfl⟩
                  first | simp only [Act.put, List.setIfInBounds_toArray, List.set_cons_succ, List.set_cons_zero] | skip
                  apply L.rdt (i := 10) rfl (by kernel_rfl) hC rfl
                  · intro W hW
                    unfold readW
                    go_simp
                    have e32 : (⟨#[32]⟩ : ByteArray).size = 1 := rfl
                    rw [if_neg (by first | omega | (simp only [ByteArray.size_append, ByteArray.size_extract]; omega) | (simp; omega))]
                    exact ⟨rfl, rfl⟩
                  first | simp only [Act.put, List.setIfInBounds_toArray, List.set_cons_succ, List.set_cons_zero] | skip
                  apply L.rdt (i := 11) rfl (by kernel_rfl) hC rfl
                  · intro W hW
                    skip
                    unfold readW
                    go_simp
                    first | rfl | exact ⟨rfl, rfl⟩
                  first | simp only [Act.put, List.setIfInBounds_toArray, List.set_cons_succ, List.set_cons_zero] | skip
                  apply L.rdt (i := 12) rfl (by kernel_rfl) hC rfl
                  · intro W hW
                    skip
                    unfold readW
                    go_simp
                    first | rfl | exact ⟨rfl, rfl⟩
                  first | simp only [Act.put, List.setIfInBounds_toArray, List.set_cons_succ, List.set_cons_zero] | skip
                  apply L.rdt (i := 13) rfl (by kernel_rfl) hC rfl
                  · intro W hW
                    skip
                    unfold readW
                    go_simp
                    first | rfl | exact ⟨rfl, rfl⟩
                  first | simp only [Act.put, List.setIfInBounds_toArray, List.set_cons_succ, List.set_cons_zero] | skip
                  apply L.rdt (i := 14) rfl (by kernel_rfl) hC rfl
                  · intro W hW
                    skip
                    unfold readW
                    go_simp
                    first | rfl | exact ⟨rfl, rfl⟩
                  first | simp only [Act.put, List.setIfInBounds_toArray, List.set_cons_succ, List.set_cons_zero] | skip
                  apply L.rdt (i := 15) rfl (by kernel_rfl) hC rfl
                  · intro W hW
                    unfold readW
                    go_simp
                    have e32 : (⟨#[32]⟩ : ByteArray).size = 1 := rfl
                    rw [if_neg (by first | omega | (simp only [ByteArray.size_append, ByteArray.size_extract]; omega) | (simp; omega))]
                    exact ⟨rfl, rfl⟩
                  first | simp only [Act.put, List.setIfInBounds_toArray, List.set_cons_succ, List.set_cons_zero] | skip
                  apply L.two (i := 16) (k := 21) rfl rfl (by kernel_rfl) rfl rfl
                  · unfold stepT
                    go_simp
                    go_at_call 14
                    refine (HPS.out _ wd).mono ?_
                    rintro e wn ⟨hbn', o, p, x, hP, k2, a2, b2, c2, d2, t2, ks2, A2, cp2, ho, rfl, hE⟩
                    have hq0 := hC.size
                    replace hC := hC.trans (hbn'.mono hC.size)
                    have HN : Hid (x = 0 → ¬ ex = Ex.mk k2 a2 b2 c2 d2 t2 ks2) := fun hx he => by
                      cases o with
                      | none => exact parse_noneL hP hx
                      | some e' => exact HTX.out _ p x _ rfl hP ⟨hx, by have h : e' = _ := ho; rw [h, ← he]⟩
                    rw [ho] at hE
                    clear hP ho HTX
                    refine ⟨_, rfl, hC, ?_⟩
                    first | simp only [Act.put, List.setIfInBounds_toArray, List.set_cons_succ, List.set_cons_zero] | skip
                    apply L.rdl (i := 17) rfl (by kernel_rfl) rfl
                    · intro W
                      unfold readW
                      go_simp
                      first | rfl | exact ⟨rfl, rfl⟩
                    first | simp only [Act.put, List.setIfInBounds_toArray, List.set_cons_succ, List.set_cons_zero] | skip
                    apply L.rdl (i := 18) rfl (by kernel_rfl) rfl
                    · intro W
                      unfold readW
                      go_simp
                      first | rfl | exact ⟨rfl, rfl⟩
                    first | simp only [Act.put, List.setIfInBounds_toArray, List.set_cons_succ, List.set_cons_zero] | skip
                    apply L.rdl (i := 19) rfl (by kernel_rfl) rfl
                    · intro W
                      unfold readW
                      go_simp
                      first | rfl | exact ⟨rfl, rfl⟩
                    first | simp only [Act.put, List.setIfInBounds_toArray, List.set_cons_succ, List.set_cons_zero] | skip
                    apply L.rdl (i := 20) rfl (by kernel_rfl) rfl
                    · intro W
                      unfold readW
                      go_simp
                      first | rfl | exact ⟨rfl, rfl⟩
                    first | simp only [Act.put, List.setIfInBounds_toArray, List.set_cons_succ, List.set_cons_zero] | skip
                    apply L.one (i := 21) rfl (by kernel_rfl) rfl
                    unfold stepT
                    go_simp
                    replace hC := hC.alloc hC.size (.cells #[.int .i64 0, .int .u64 0, .int .u64 0, .int .u64 0, .int .u64 0, .string ⟨#[]⟩, .slice none 0 0] 27)
                    have hy : Blk (wn.alloc (.cells #[.int .i64 0, .int .u64 0, .int .u64 0, .int .u64 0, .int .u64 0, .string ⟨#[]⟩, .slice none 0 0] 27)) wn.heap.size 27 #[.int .i64 0, .int .u64 0, .int .u64 0, .int .u64 0, .int .u64 0, .string ⟨#[]⟩, .slice none 0 0] := Blk.new wn _ _
                    have hE := (hE.keep (W' := wn.alloc (.cells #[.int .i64 0, .int .u64 0, .int .u64 0, .int .u64 0, .int .u64 0, .string ⟨#[]⟩, .slice none 0 0] 27)) fun p hp => World.cell?_alloc_lt wn _ p hp.2).mono (hi' := (wn.alloc (.cells #[.int .i64 0, .int .u64 0, .int .u64 0, .int .u64 0, .int .u64 0, .string ⟨#[]⟩, .slice none 0 0] 27)).heap.size) (fun _ h => h) (by simp)
                    have hnb : ¬ (wd.heap.size ≤ wn.heap.size ∧ wn.heap.size < wn.heap.size) := by omega
                    have hwb : w.heap.size < wn.heap.size := by have := hxq.lt; have := hbq.size; have := hbn'.size; omega
                    generalize (wn.alloc (.cells #[.int .i64 0, .int .u64 0, .int .u64 0, .int .u64 0, .int .u64 0, .string ⟨#[]⟩, .slice none 0 0] 27)) = wb at hC hy hE ⊢
                    have HNS : ∃ nb, nb = wn.heap.size := ⟨_, rfl⟩
                    obtain ⟨nb, hnbe⟩ := HNS
                    obtain ⟨Sx, hNS, hE⟩ : ∃ Sx : Nat → Prop, ¬ Sx nb ∧ ExF Sx wb.heap.size wb (Ex.mk k2 a2 b2 c2 d2 t2 ks2) (exCells k2 a2 b2 c2 d2 t2 A2 ks2.length cp2) := ⟨_, by rw [hnbe]; exact hnb, hE⟩
                    rw [← hnbe] at hy hwb ⊢
                    clear hnb hnbe
                    refine ⟨hC, ?_⟩
                    first | simp only [Act.put, List.setIfInBounds_toArray, List.set_cons_succ, List.set_cons_zero] | skip
                    have y0 : wb.cell? ⟨nb, 0, none⟩ = some (.int .i64 0) := hy.cell 0
                    have y1 : wb.cell? ⟨nb, 1, none⟩ = some (.int .u64 0) := hy.cell 1
                    have y2 : wb.cell? ⟨nb, 2, none⟩ = some (.int .u64 0) := hy.cell 2
                    have y3 : wb.cell? ⟨nb, 3, none⟩ = some (.int .u64 0) := hy.cell 3
                    have y4 : wb.cell? ⟨nb, 4, none⟩ = some (.int .u64 0) := hy.cell 4
                    have y5 : wb.cell? ⟨nb, 5, none⟩ = some (.string ⟨#[]⟩) := hy.cell 5
                    have y6 : wb.cell? ⟨nb, 6, none⟩ = some (.slice none 0 0) := hy.cell 6
                    have f0 := hy.frozen 0
                    have f1 := hy.frozen 1
                    have f2 := hy.frozen 2
                    have f3 := hy.frozen 3
                    have f4 := hy.frozen 4
                    have f5 := hy.frozen 5
                    have f6 := hy.frozen 6
                    have g1 := blk_set7 hy (.int .i64 k2) (.int .u64 a2) (.int .u64 b2) (.int .u64 c2) (.int .u64 d2) (.string t2) (.slice A2 ks2.length cp2)
                    have g2 := (hE.set7 (k := nb) hNS (.int .i64 k2) (.int .u64 a2) (.int .u64 b2) (.int .u64 c2) (.int .u64 d2) (.string t2) (.slice A2 ks2.length cp2)).is
                    have g3 := below_set7 (hbq.trans (hC.mono hbq.size)) (Nat.le_of_lt hwb) (.int .i64 k2) (.int .u64 a2) (.int .u64 b2) (.int .u64 c2) (.int .u64 d2) (.string t2) (.slice A2 ks2.length cp2)
                    have g4 := blk_far7 (k := nb) (hxq.below hC hxq.lt) (by omega) (.int .i64 k2) (.int .u64 a2) (.int .u64 b2) (.int .u64 c2) (.int .u64 d2) (.string t2) (.slice A2 ks2.length cp2)
                    have g5 := size_set7 (W := wb) (k := nb) (.int .i64 k2) (.int .u64 a2) (.int .u64 b2) (.int .u64 c2) (.int .u64 d2) (.string t2) (.slice A2 ks2.length cp2)
                    rw [← g5] at g2
                    have G1 := Lib.hid g1
                    have G2 := Lib.hid g2
                    have G3 := Lib.hid g3
                    have G4 := Lib.hid g4
                    clear g1 g2 g3 g4 g5 hE hNS hC
                    apply L.one (i := 22) rfl (by kernel_rfl) rfl
                    unfold stepT
                    go_simp
                    generalize (((((((wb.setCell ⟨nb, 0, none⟩ (.int .i64 k2)).setCell ⟨nb, 1, none⟩ (.int .u64 a2)).setCell ⟨nb, 2, none⟩ (.int .u64 b2)).setCell ⟨nb, 3, none⟩ (.int .u64 c2)).setCell ⟨nb, 4, none⟩ (.int .u64 d2)).setCell ⟨nb, 5, none⟩ (.string t2)).setCell ⟨nb, 6, none⟩ (.slice A2 ks2.length cp2)) = w9 at G1 G2 G3 G4 ⊢
                    clear y0 y1 y2 y3 y4 y5 y6 f0 f1 f2 f3 f4 f5 f6 hy
                    apply L.rdl (i := 23) rfl (by kernel_rfl) rfl
                    · intro W
                      unfold readW
                      go_simp
                      first | rfl | exact ⟨rfl, rfl⟩
                    first | simp only [Act.put, List.setIfInBounds_toArray, List.set_cons_succ, List.set_cons_zero] | skip
                    apply L.rdl (i := 24) rfl (by kernel_rfl) rfl
                    · intro W
                      unfold readW
                      go_simp
                      first | rfl | exact ⟨rfl, rfl⟩
                    first | simp only [Act.put, List.setIfInBounds_toArray, List.set_cons_succ, List.set_cons_zero] | skip
                    refine L.done (by kernel_rfl) ?_
                    by_cases hx : x = 0
                    · subst hx
                      have hne := HN.out rfl
                      have hsm := HSM.out _ _ w9 G3.out G2.out
                      unfold exCells at hsm
                      rw [isB_no hne] at hsm
                      have HSX := Lib.hid hsm
                      have hx9 := G4.out
                      have hy9 := G1.out
                      have x0 := hx9.cell 0
                      have x1 := hx9.cell 1
                      have x2 := hx9.cell 2
                      have x3 := hx9.cell 3
                      have x4 := hx9.cell 4
                      have x5 := hx9.cell 5
                      have x6 := hx9.cell 6
                      have y0 := hy9.cell 0
                      have y1 := hy9.cell 1
                      have y2 := hy9.cell 2
                      have y3 := hy9.cell 3
                      have y4 := hy9.cell 4
                      have y5 := hy9.cell 5
                      have y6 := hy9.cell 6
                      clear hsm hne HN hx9 hy9
                      go_wp2_with fail
                      refine HSX.out.mono ?_
                      rintro r w10 ⟨rfl, hb10⟩
                      go_wp2
                      go_roundw
                      case rel => exact ⟨m1, by have := HM1.out; omega, by have := HM1.out; omega, by go_num, G3.out.trans (hb10.mono G3.out.size), G4.out.below hb10 G4.out.lt⟩
                      case measure => have := HM1.out; simp [intOf]; omega
                    · have hxb : (x == 0) = false := by rw [beq_eq_false_iff_ne]; exact hx
                      clear hx HN
                      go_wp2
                      go_roundw
                      case rel => exact ⟨m1, by have := HM1.out; omega, by have := HM1.out; omega, by go_num, G3.out, G4.out⟩
                      case measure => have := HM1.out; simp [intOf]; omega
                  · unfold stepT
                    go_simp
                    have hq00 := hC.size
                    replace hC := hC.alloc hC.size (.cells #[.int .i64 0, .int .u64 0, .int .u64 0, .int .u64 0, .int .u64 0, .string ⟨#[]⟩, .slice none 0 0] 27)
                    have hy : Blk (wd.alloc (.cells #[.int .i64 0, .int .u64 0, .int .u64 0, .int .u64 0, .int .u64 0, .string ⟨#[]⟩, .slice none 0 0] 27)) wd.heap.size 27 #[.int .i64 0, .int .u64 0, .int .u64 0, .int .u64 0, .int .u64 0, .string ⟨#[]⟩, .slice none 0 0] := Blk.new wd _ _
                    have hlt : wd.heap.size < (wd.alloc (.cells #[.int .i64 0, .int .u64 0, .int .u64 0, .int .u64 0, .int .u64 0, .string ⟨#[]⟩, .slice none 0 0] 27)).heap.size := by simp
                    have hwb : w.heap.size < wd.heap.size := by have := hxq.lt; have := hq00; omega
                    generalize (wd.alloc (.cells #[.int .i64 0, .int .u64 0, .int .u64 0, .int .u64 0, .int .u64 0, .string ⟨#[]⟩, .slice none 0 0] 27)) = wa at hC hy hlt ⊢
                    generalize wd.heap.size = nb at hy hlt hwb ⊢
                    refine ⟨hC, ?_⟩
                    first | simp only [Act.put, List.setIfInBounds_toArray, List.set_cons_succ, List.set_cons_zero] | skip
                    apply L.one (i := 16) rfl (by kernel_rfl) rfl
                    unfold stepT
                    go_simp
                    go_at_call 14
                    refine (HPS.out _ wa).mono ?_
                    rintro e wn ⟨hbn', o, p, x, hP, k2, a2, b2, c2, d2, t2, ks2, A2, cp2, ho, rfl, hE⟩
                    have hq0 := hC.size
                    replace hC := hC.trans (hbn'.mono hC.size)
                    have HN : Hid (x = 0 → ¬ ex = Ex.mk k2 a2 b2 c2 d2 t2 ks2) := fun hx he => by
                      cases o with
                      | none => exact parse_noneL hP hx
                      | some e' => exact HTX.out _ p x _ rfl hP ⟨hx, by have h : e' = _ := ho; rw [h, ← he]⟩
                    rw [ho] at hE
                    clear hP ho HTX
                    replace hy := hy.below hbn' hlt
                    refine ⟨_, rfl, hC, ?_⟩
                    first | simp only [Act.put, List.setIfInBounds_toArray, List.set_cons_succ, List.set_cons_zero] | skip
                    apply L.rdl (i := 17) rfl (by kernel_rfl) rfl
                    · intro W
                      unfold readW
                      go_simp
                      first | rfl | exact ⟨rfl, rfl⟩
                    first | simp only [Act.put, List.setIfInBounds_toArray, List.set_cons_succ, List.set_cons_zero] | skip
                    apply L.rdl (i := 18) rfl (by kernel_rfl) rfl
                    · intro W
                      unfold readW
                      go_simp
                      first | rfl | exact ⟨rfl, rfl⟩
                    first | simp only [Act.put, List.setIfInBounds_toArray, List.set_cons_succ, List.set_cons_zero] | skip
                    apply L.rdl (i := 19) rfl (by kernel_rfl) rfl
                    · intro W
                      unfold readW
                      go_simp
                      first | rfl | exact ⟨rfl, rfl⟩
                    first | simp only [Act.put, List.setIfInBounds_toArray, List.set_cons_succ, List.set_cons_zero] | skip
                    apply L.rdl (i := 20) rfl (by kernel_rfl) rfl
                    · intro W
                      unfold readW
                      go_simp
                      first | rfl | exact ⟨rfl, rfl⟩
                    first | simp only [Act.put, List.setIfInBounds_toArray, List.set_cons_succ, List.set_cons_zero] | skip
                    have hNS : ¬ (wa.heap.size ≤ nb ∧ nb < wn.heap.size) := by omega
                    obtain ⟨Sx, hNS, hE⟩ : ∃ Sx : Nat → Prop, ¬ Sx nb ∧ ExF Sx wn.heap.size wn (Ex.mk k2 a2 b2 c2 d2 t2 ks2) (exCells k2 a2 b2 c2 d2 t2 A2 ks2.length cp2) := ⟨_, hNS, hE⟩
                    rename World => wb
                    have y0 : wb.cell? ⟨nb, 0, none⟩ = some (.int .i64 0) := hy.cell 0
                    have y1 : wb.cell? ⟨nb, 1, none⟩ = some (.int .u64 0) := hy.cell 1
                    have y2 : wb.cell? ⟨nb, 2, none⟩ = some (.int .u64 0) := hy.cell 2
                    have y3 : wb.cell? ⟨nb, 3, none⟩ = some (.int .u64 0) := hy.cell 3
                    have y4 : wb.cell? ⟨nb, 4, none⟩ = some (.int .u64 0) := hy.cell 4
                    have y5 : wb.cell? ⟨nb, 5, none⟩ = some (.string ⟨#[]⟩) := hy.cell 5
                    have y6 : wb.cell? ⟨nb, 6, none⟩ = some (.slice none 0 0) := hy.cell 6
                    have f0 := hy.frozen 0
                    have f1 := hy.frozen 1
                    have f2 := hy.frozen 2
                    have f3 := hy.frozen 3
                    have f4 := hy.frozen 4
                    have f5 := hy.frozen 5
                    have f6 := hy.frozen 6
                    have g1 := blk_set7 hy (.int .i64 k2) (.int .u64 a2) (.int .u64 b2) (.int .u64 c2) (.int .u64 d2) (.string t2) (.slice A2 ks2.length cp2)
                    have g2 := (hE.set7 (k := nb) hNS (.int .i64 k2) (.int .u64 a2) (.int .u64 b2) (.int .u64 c2) (.int .u64 d2) (.string t2) (.slice A2 ks2.length cp2)).is
                    have g3 := below_set7 (hbq.trans (hC.mono hbq.size)) (Nat.le_of_lt hwb) (.int .i64 k2) (.int .u64 a2) (.int .u64 b2) (.int .u64 c2) (.int .u64 d2) (.string t2) (.slice A2 ks2.length cp2)
                    have g4 := blk_far7 (k := nb) (hxq.below hC hxq.lt) (by omega) (.int .i64 k2) (.int .u64 a2) (.int .u64 b2) (.int .u64 c2) (.int .u64 d2) (.string t2) (.slice A2 ks2.length cp2)
                    have g5 := size_set7 (W := wb) (k := nb) (.int .i64 k2) (.int .u64 a2) (.int .u64 b2) (.int .u64 c2) (.int .u64 d2) (.string t2) (.slice A2 ks2.length cp2)
                    rw [← g5] at g2
                    have G1 := Lib.hid g1
                    have G2 := Lib.hid g2
                    have G3 := Lib.hid g3
                    have G4 := Lib.hid g4
                    clear g1 g2 g3 g4 g5 hE hNS hC
                    apply L.one (i := 22) rfl (by kernel_rfl) rfl
                    unfold stepT
                    go_simp
                    generalize (((((((wb.setCell ⟨nb, 0, none⟩ (.int .i64 k2)).setCell ⟨nb, 1, none⟩ (.int .u64 a2)).setCell ⟨nb, 2, none⟩ (.int .u64 b2)).setCell ⟨nb, 3, none⟩ (.int .u64 c2)).setCell ⟨nb, 4, none⟩ (.int .u64 d2)).setCell ⟨nb, 5, none⟩ (.string t2)).setCell ⟨nb, 6, none⟩ (.slice A2 ks2.length cp2)) = w9 at G1 G2 G3 G4 ⊢
                    clear y0 y1 y2 y3 y4 y5 y6 f0 f1 f2 f3 f4 f5 f6 hy
                    apply L.rdl (i := 23) rfl (by kernel_rfl) rfl
                    · intro W
                      unfold readW
                      go_simp
                      first | rfl | exact ⟨rfl, rfl⟩
                    first | simp only [Act.put, List.setIfInBounds_toArray, List.set_cons_succ, List.set_cons_zero] | skip
                    apply L.rdl (i := 24) rfl (by kernel_rfl) rfl
                    · intro W
                      unfold readW
                      go_simp
                      first | rfl | exact ⟨rfl, rfl⟩
                    first | simp only [Act.put, List.setIfInBounds_toArray, List.set_cons_succ, List.set_cons_zero] | skip
                    refine L.done (by kernel_rfl) ?_
                    by_cases hx : x = 0
                    · subst hx
                      have hne := HN.out rfl
                      have hsm := HSM.out _ _ w9 G3.out G2.out
                      unfold exCells at hsm
                      rw [isB_no hne] at hsm
                      have HSX := Lib.hid hsm
                      have hx9 := G4.out
                      have hy9 := G1.out
                      have x0 := hx9.cell 0
                      have x1 := hx9.cell 1
                      have x2 := hx9.cell 2
                      have x3 := hx9.cell 3
                      have x4 := hx9.cell 4
                      have x5 := hx9.cell 5
                      have x6 := hx9.cell 6
                      have y0 := hy9.cell 0
                      have y1 := hy9.cell 1
                      have y2 := hy9.cell 2
                      have y3 := hy9.cell 3
                      have y4 := hy9.cell 4
                      have y5 := hy9.cell 5
                      have y6 := hy9.cell 6
                      clear hsm hne HN hx9 hy9
                      go_wp2_with fail
                      refine HSX.out.mono ?_
                      rintro r w10 ⟨rfl, hb10⟩
                      go_wp2
                      go_roundw
                      case rel => exact ⟨m1, by have := HM1.out; omega, by have := HM1.out; omega, by go_num, G3.out.trans (hb10.mono G3.out.size), G4.out.below hb10 G4.out.lt⟩
                      case measure => have := HM1.out; simp [intOf]; omega
                    · have hxb : (x == 0) = false := by rw [beq_eq_false_iff_ne]; exact hx
                      clear hx HN
                      go_wp2
                      go_roundw
                      case rel => exact ⟨m1, by have := HM1.out; omega, by have := HM1.out; omega, by go_num, G3.out, G4.out⟩
                      case measure => have := HM1.out; simp [intOf]; omega
                · rw [c40] at hbi
                  generalize bt S.data.toList m = y at hbm c41
                  go_wp2
                  go_roundw
                  case rel => exact ⟨m + 1, by omega, by omega, by go_num, hbq, hxq⟩
                  case measure => simp [intOf]; omega
              · generalize bt S.data.toList i = y at hbi c40
                go_wp2
                go_roundw
                case rel => exact ⟨m + 1, by omega, by omega, by go_num, hbq, hxq⟩
                case measure => simp [intOf]; omega
            · have hmi : ¬ (m : Int) < (S.size : Int) := by omega
              go_wp2
              go_roundw
              case rel => exact ⟨i + 1, by omega, by go_num, hbq, hxq⟩
              case measure => simp [intOf]; omega
        · have hii : ¬ (i : Int) < (S.size : Int) := by omega
          go_wp2
          go_ret
          exact ⟨rfl, hbr⟩
  · rw [if_neg h0]
    have hne : (checkE ex != 0) = true := by rw [bne_iff_ne]; exact h0
    have hne2 : (checkE ex == 0) = false := by rw [beq_eq_false_iff_ne]; exact h0
    clear h0 HPR
    generalize checkE ex = cx at hne hne2 ⊢
    go_wp2
    go_ret
    exact ⟨rfl, hb5⟩
end Go.Proofs.YtndhbdbfjkmloaaDoor
namespace Go.Proofs.YtndhbdbfjkmloaaDoor
open Go.ChangeShapes Go.WideShapes Go.ChangeAt Go.RowKit

theorem open_exw {H : Type} {enc : TypeId × Value → H} {W : World} {v : Value} {d : DataW H} {p : List MemPlace} (h : DataW.Trod enc Tryd.prog W 0 (fun _ => true) true 27 v d p) :
    ∃ e cs, v = .agg cs.toArray ∧ ExIs W W.heap.size e cs ∧ WfE e := by
  obtain ⟨fuel, hf⟩ := h
  obtain ⟨e, he, hw⟩ := trod_exw fuel hf
  refine ⟨e, _, agg_of_cells rfl ?_, he, hw⟩
  generalize v.cells.toList = cs at he
  cases he
  simp
end Go.Proofs.YtndhbdbfjkmloaaDoor
namespace Go.Proofs.YtndhbdbfjkmloaaDoor.readLeast
open Go.ChangeShapes Go.WideShapes Go.ChangeAt Go.RowKit
open Go.ChangeMaps (open_string shut_string)
set_option linter.unusedVariables false

theorem own : ownKnob Tryd.prog.godebug = none := by kernel_rfl
theorem laidOut : laidOutB Tryd.prog = true := by kernel_rfl

theorem gTab : Tryd.prog.globalNamed "math/bits.deBruijn64tab" = some 0 := by kernel_rfl
theorem tTab : (Tryd.prog.globals[0]?).map (·.type) = some 194 := by kernel_rfl
theorem c8 : Tryd.prog.cellsOf 5 = 1 := by kernel_rfl

/-- The door's own heap meets the condition. -/
theorem door_met (os : Os) (args : Array Value) : laidMetH Tryd.prog [("math/bits.deBruijn64tab", Rows.laid_math_bits_deBruijn64tab)] ((World.doorLaid Tryd.prog 400 os).forCall (fun _ _ => 0) ⟨#[], args, []⟩).memory :=
  laidMetH_of_parts3 (fuel := 8) (laidMet_of_run' 8 (by kernel_rfl) (by kernel_rfl)) (by kernel_rfl) (by kernel_rfl)

theorem tab_lits : ∀ (xs : List (DataW Unit × List MemPlace)), Rows.laid_math_bits_deBruijn64tab = DataW.agg (xs.map (·.1)) → ∀ (j : Nat) (x : DataW Unit × List MemPlace), xs[j]? = some x → x.1 = .lit (.int .u8 (Lib.deBruijn64tab.getD j 0)) := by
  intro xs h j x hx
  have h' : (Lib.deBruijn64tab.map fun n : Nat => DataW.lit (H := Unit) (.int .u8 (n : Int))) = xs.map (·.1) := by
    have : Rows.laid_math_bits_deBruijn64tab = DataW.agg (H := Unit) (Lib.deBruijn64tab.map fun n : Nat => DataW.lit (.int .u8 (n : Int))) := by rfl
    rw [this] at h
    injection h
  have h1 := congrArg (·[j]?) h'
  simp only [List.getElem?_map, hx, Option.map_some] at h1
  obtain ⟨n, hn, he⟩ := Option.map_eq_some_iff.1 h1
  rw [← he, List.getD_eq_getElem?_getD, hn]
  rfl

/-- what the condition gives the walk: the table's cells -/
theorem of_laid {W : World} (h : laidMetH Tryd.prog [("math/bits.deBruijn64tab", Rows.laid_math_bits_deBruijn64tab)] W) : TabAt W := by
  rw [MakeChecks.laidMetH_plain _ _ _ (by kernel_rfl)] at h
  obtain ⟨ps, ⟨g0, t0, cs0, f0, p0, q0, hg0, ht0, hv0, hd0, _, _⟩, _, _⟩ := h
  obtain rfl := Option.some.inj (gTab.symm.trans hg0)
  obtain rfl := Option.some.inj (tTab.symm.trans ht0)
  obtain ⟨xs, m, _, hx, _, hn, hel⟩ := DataW.trod_array Tryd.underlying194 hd0
  injection hx with hx _
  intro j hj
  have hj' : j < 64 := hj
  have h1 := hel j hj'
  rw [List.getElem?_eq_getElem (by omega), c8] at h1
  obtain ⟨k, e1, e2, _⟩ := DataW.trod_int Tryd.underlying5 h1
  have h2 := tab_lits xs hx j _ (List.getElem?_eq_getElem (by omega))
  rw [e2] at h2
  have hk : k = (Lib.deBruijn64tab.getD j 0 : Nat) := by simpa using h2
  have hc := World.var?_cell hg0 hv0 j
  rw [hc]
  rw [Nat.mul_one] at e1
  have h3 : cs0.toList[j]? = some (.int .u8 k) := by
    have := congrArg (·[0]?) e1
    simpa [List.getElem?_take, List.getElem?_drop] using this
  rw [Array.getElem?_toList] at h3
  rw [h3, hk]

set_option maxRecDepth 100000 in
theorem lifted (os : Os) (started : os.Started) (H : Type) (enc : TypeId × Value → H) :
    ReturnsInHanded {} Tryd.checked os 6 .any (fun w args => (Rows.readLeastSpec.pre enc Tryd.prog Tryd.f6 [] false w args ∧ laidMetH Tryd.prog [("math/bits.deBruijn64tab", Rows.laid_math_bits_deBruijn64tab)] w) ∧ sizedMet enc Tryd.prog Tryd.f6 (OpenSpec.ofChange Rows.readLeastSpec) false w args)
      (Rows.readLeastSpec.post enc Tryd.prog Tryd.f6 false true false false) := by
  refine returnsInHanded_of_change_and (C := Tryd.checked) (X := fun w _ => laidMetH Tryd.prog [("math/bits.deBruijn64tab", Rows.laid_math_bits_deBruijn64tab)] w) (fun _ _ _ hh h => h.of_heap hh) own started (by kernel_rfl) Tryd.func6
    (ChangeSpec.witness_shaped (enc := enc) (C := Tryd.checked) (os := os) (X := fun w _ => laidMetH Tryd.prog [("math/bits.deBruijn64tab", Rows.laid_math_bits_deBruijn64tab)] w) false (World.doorLaid Tryd.prog 400 os) #[.agg #[.int .i64 0, .int .u64 0, .int .u64 0, .int .u64 0, .int .u64 0, .string ByteArray.empty, .slice none 0 0]] 8 rfl (World.shaped_of_RefB (by kernel_rfl) (by kernel_rfl)) (by kernel_rfl) (by kernel_rfl) (by kernel_rfl) (door_met os _)) ?_
  intro W base args ds gs before hval0 hW hcnd hsz0 hL _
  have hval : ∀ (j : Nat) t v, Tryd.f6.params[j]? = some t → args[j]? = some v → Value.okWide Tryd.prog W .any base t v := hval0
  have hsz : (DataW.weightsEach Tryd.prog (Tryd.f6.params.toList ++ Rows.readLeastSpec.plain.varTypes Tryd.prog) (ds ++ gs)).all (· ≤ reachBytes) = true := hsz0
  have hW' := hW
  obtain ⟨p, q, hA0, hV, rfl, hfz, hnd⟩ := hW
  have hA : DataW.TrodAll enc Tryd.prog W 0 (fun _ => true) true Tryd.f6.params.toList args.toList ds p := hA0
  rw [Tryd.params6] at hA hval hsz
  obtain ⟨v0, vs0, d0, ds0, p0, q0, hargs, rfl, rfl, h0, r0⟩ := trodAll_cons hA
  obtain ⟨rfl, rfl, rfl⟩ := trodAll_nil r0
  obtain rfl : args = #[v0] := by cases args; simp_all
  obtain ⟨rfl, rfl⟩ := trodVars_none hV
  have k0 := h0
  have lt0 : ∀ x ∈ p0, x.block < W.heap.size := by obtain ⟨m, hm⟩ := k0; exact DataW.trod_lt m _ _ _ hm
  obtain ⟨e0, c0, rfl, w0, u0⟩ := open_exw h0
  have hT := of_laid hL
  clear hA0 hval0
  refine (walk_ReadLeast e0 c0 W w0 u0 hT).mono fun e W' ⟨he, bel⟩ => ?_
  subst he
  exact ⟨_, rfl, _, _, _, [], _, [], hW', trodAll_mk1 (shut_bool Tryd.underlying4 _), (trodAll_cons_mk (Below.trod laidOut (by kernel_rfl) (of_decide_eq_true (by kernel_rfl)) k0 bel lt0) trodAll_mk0), rfl, bel.frame _, fun h => by cases h⟩

theorem over : Rows.readLeastRow.holds Tryd.pinned (OpenSpec.ofChange Rows.readLeastSpec) :=
  OpenClaim.holds_of_wide 6 Tryd.f6 rfl rfl rfl rfl rfl rfl rfl ⟨rfl, rfl, rfl, rfl, rfl⟩ rfl rfl rfl rfl rfl (by kernel_rfl) Tryd.func6 (by kernel_rfl)
    (of_decide_eq_true (by kernel_rfl)) (by unfold Func.isWrapper; first | (rw [if_pos (by decide +kernel)]; kernel_rfl) | (rw [if_neg (by decide +kernel)]; exact ⟨rfl, rfl⟩))
    (fun os started H enc _ => lifted os started H enc)

/-- THE TIED CARD. -/
theorem proved : Rows.ReadLeastCardSaid :=
  Claim7.holds_tied_plain_at .later [] [.data] true (true, "84fe2c0e37c422917b18a07fb6c302e79b75133ca52d2c8cd8afdad499592a61") true
    over (fun _ h => by cases h) (by kernel_rfl) (fun _ h => by cases h) readLeast_row_tie rfl ⟨rfl, rfl⟩ (by kernel_rfl) rfl
    (fun f fn hf hfn => by
      obtain rfl : f = 6 := Option.some.inj ((show Tryd.prog.funcNamed "chaffcutter/chaffkeep.ReadLeast" = some 6 by kernel_rfl).symm.trans hf) |>.symm
      obtain rfl : fn = Tryd.f6 := (Option.some.inj (Tryd.func6.symm.trans hfn)).symm
      exact ⟨by kernel_rfl, fun j t ht => by
        rw [Tryd.params6] at ht
        rcases j with _ | j
        · obtain rfl : t = 27 := by simpa using ht.symm
          exact (show Tryd.prog.wantsStandIn 27 = false by kernel_rfl)
        · simp at ht⟩)
    (by kernel_rfl)
#print axioms proved
end Go.Proofs.YtndhbdbfjkmloaaDoor.readLeast
