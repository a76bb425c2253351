/- code.Make: what it answers. The machine of package code in memory: push, pop, fail. -/
import Derived.Test.YtkmcnekjimobhaaJTopRoads13
import Derived.Test.YtkmcnekjimobhaaJTopRoads17
import Derived.Test.YtkmcnekjimobhaaJTopRoads9
import Derived.Test.YtkmcnekjimobhaaJTopRoads0
import Derived.Laws.OwnMore
import Derived.Deep.RegionLawGrows
import Derived.Deep.DeepCutAuto
import Derived.Lib.SmallJoins
import Derived.Lib.OwnKind
namespace Go.Proofs.Ytkmcnekjimobhaa
set_option maxHeartbeats 16000000
set_option maxRecDepth 100000
open Go.RowKit
def MakeQ (g : List Rl) (w : World) (e : Ending) (w' : World) : Prop := Below w.heap.size w w' /\
  ((makR g ≠ 0 /\ e = .returned (.tuple #[.slice none 0 0, .int .i64 (makR g)])) \/
   (makR g = 0 /\ ∃ V c, e = .returned (.tuple #[.slice V (codeG g).length c, .int .i64 0]) /\ w'.ownsRow w.heap.size 62 6 (.slice V (codeG g).length c) (codeG g).length (inCells (codeG g))))
structure MkC2 (wb : Nat) (cv : Value) (W : World) : Prop where
  c2 : W.cell? ⟨wb, 2, none⟩ = some cv
theorem own_monoM {w : World} {base base' : Nat} {e : TypeId} {size n : Nat} {v : Value} {xs : List Value} (h : w.ownsRow base e size v n xs) (hb : base' <= base) : w.ownsRow base' e size v n xs :=
  ⟨h.1, h.2.imp id fun ⟨g, cap, cur, h1, h2, h3⟩ => ⟨g, cap, cur, h1, Nat.le_trans hb h2, h3⟩⟩
structure MakI (g : List Rl) (wb base : Nat) (gv ov cv : Value) (w : World) (gb : Nat) (j : Nat) (pre : List In) (E : List Nat) (ev ov' cv' : Value) (wr : World) : Prop where
  st : WrS wb base gv ov cv w (iN 5 0 :: iN 8 0 :: pre) (0 :: cpos 2 pre) ov' cv' wr
  ends : wr.ownsRow w.heap.size 3 1 ev E.length (nV E)
  apart : ev.ownBlock = none \/ ev.ownBlock ≠ cv'.ownBlock
  plain : pre ++ cR g id (g.drop j) (2 + pre.length) = cR g id g 2
  pe : E ++ aR (g.drop j) (2 + pre.length) = aR g 2
theorem make_any {g : List Rl} {A : Option Addr} {cp : Nat} {row : Nat -> List Value} {w : World} (h : GrIs w w.heap.size g A cp row) (hwf : ∀ r ∈ g, WfE r.2) : Calls Try.prog 24 #[.agg #[.slice A g.length cp]] w (MakeQ g w) := by
  obtain ⟨i0, hi0, hz0, hz1, hz2⟩ := info_parts intw_info
  have HWL := Lib.hid (fun W (hW : Below w.heap.size w W) => well_any (h.grow hW))
  have HKR := Lib.hid (fun W (hW : Below w.heap.size w W) => kernel_any (h.grow hW))
  have HG := Lib.hid h
  have HWF := Lib.hid hwf
  generalize hQ : MakeQ g w = Q
  have HQ := Lib.hid hQ
  clear hQ h hwf
  have hgx : Blk (w.alloc (.cells #[.slice A g.length cp] 24)) w.heap.size 24 #[.slice A g.length cp] := blk_at rfl
  by_cases hm1 : (wellG g).2 ≠ 0
  · have hx0 : ((wellG g).2 != 0) = true := by rw [bne_iff_ne]; exact hm1
    have HF : Hid (∀ W, Below w.heap.size w W -> Q (.returned (.tuple #[.slice none 0 0, .int .i64 (wellG g).2])) W) := fun W hb => HQ.out ▸ ⟨hb, .inl (by unfold makR; rw [if_pos hm1]; exact ⟨hm1, rfl⟩)⟩
    clear HQ hm1 hgx
    go_enter Try.func24, Try.ntmps24
    go_wp2_with fail
    refine (HWL.out _ bl).mono ?_
    rintro e w1 ⟨rfl, hb1⟩
    have hw1 : Below w.heap.size w w1 := ((Below.refl _ w).alloc (Nat.le_refl _) _).trans (hb1.mono (by simp))
    generalize (wellG g).2 = y at hx0 HF ⊢
    generalize (wellG g).1 = y1
    clear hb1
    go_wp2
    exact HF.out _ hw1
  have hw0 : (wellG g).2 = 0 := by simpa using hm1
  have hmk : makR g = kerR g := by unfold makR; rw [if_neg hm1]
  clear hm1
  by_cases hk0 : kerR g = 0
  · have hmz : makR g = 0 := by rw [hmk]; exact hk0
    obtain ⟨Wg, -, hlr⟩ := makR_zero hmz
    have HWG := Lib.hid Wg
    have HMZ := Lib.hid hmz
    have HW0 := Lib.hid hw0
    have HK0 := Lib.hid hk0
    have h10 := Wg.right.ten
    have hpos := Wg.right.pos
    clear hmk hmz Wg
    go_enter Try.func24, Try.ntmps24
    go_wp2_with fail
    refine (HWL.out _ bl).mono ?_
    rintro e w1 ⟨rfl, hb1⟩
    rw [hw0]
    have hw1 : Below w.heap.size w w1 := ((Below.refl _ w).alloc (Nat.le_refl _) _).trans (hb1.mono (by simp))
    have hgx1 := hgx.below hb1 hgx.lt
    have g1 : w1.cell? ⟨w.heap.size, 0, none⟩ = some (.slice A g.length cp) := hgx1.cell 0
    generalize (wellG g).1 = y1
    clear hb1 hgx hw0
    go_wp2_with fail
    refine (HKR.out _ hw1).mono ?_
    rintro e w2 ⟨hb2, hq⟩
    rcases hq with ⟨hne, _⟩ | ⟨_, KV, kc, krows, rfl, -⟩
    · exact absurd HK0.out hne
    have hw2 : Below w.heap.size w w2 := hw1.trans (hb2.mono hw1.size)
    have hgx2 := (hgx1.below hb2 hgx1.lt).alloc (.cells #[.slice KV g.length kc] 24)
    have hw3 : Below w.heap.size w (w2.alloc (.cells #[.slice KV g.length kc] 24)) := hw2.alloc hw2.size _
    have hgl := hgx2.lt
    clear hb2 hgx1 hw1 g1 hk0 hw2
    go_upto_region 7 with fail
    generalize (w2.alloc (.cells #[.slice KV g.length kc] 24)) = w3 at hgx2 hw3 hgl ⊢
    have g3 : w3.cell? ⟨w.heap.size, 0, none⟩ = some (.slice A g.length cp) := hgx2.cell 0
    go_upto_region 8 with fail
    have hwb : Blk (w3.alloc (.cells #[.slice A g.length cp, .slice none 0 0, .slice none 0 0] 110)) w3.heap.size 110 #[.slice A g.length cp, .slice none 0 0, .slice none 0 0] := blk_at rfl
    have hw4 : Below w.heap.size w (w3.alloc (.cells #[.slice A g.length cp, .slice none 0 0, .slice none 0 0] 110)) := hw3.alloc hw3.size _
    have hgx4 := hgx2.alloc (.cells #[.slice A g.length cp, .slice none 0 0, .slice none 0 0] 110)
    have hs4 : (w3.alloc (.cells #[.slice A g.length cp, .slice none 0 0, .slice none 0 0] 110)).heap.size = w3.heap.size + 1 := by simp
    have hwz3 := hw3.size
    have hfr3 : ∀ k, w3.heap.size <= k -> True := fun _ _ => trivial
    clear g3 hgx2 hfr3 hw3
    generalize (w3.alloc (.cells #[.slice A g.length cp, .slice none 0 0, .slice none 0 0] 110)) = w4 at hwb hw4 hgx4 hs4 ⊢
    generalize w3.heap.size = wb at hwb hs4 hwz3 hgl ⊢
    have hWr : WrI w4 wb (wb + 1) (.slice A g.length cp) (.slice none 0 0) (.slice none 0 0) [] [] := ⟨⟨by omega, by omega⟩, hwb, World.ownsRow_nil _ _ _ _, World.ownsRow_nil _ _ _ _⟩
    have HG4 : Hid (GrIs w4 w.heap.size g A cp row) := HG.out.on hw4
    have HW4 := Lib.hid hw4
    have HGX := Lib.hid hgx4
    have HWR := Lib.hid hWr
    have hB : w.heap.size <= wb := hwz3
    have hsz4 : w4.heap.size = wb + 1 := hs4
    have HS4 := Lib.hid hsz4
    have hlow4 : wb < w4.heap.size := by omega
    clear hs4 hsz4 hwb hgx4 hw4
    refine wp_region_l (MkC2 wb (.slice none 0 0)) (fun i => i == 5 || i == 6 || i == 7) (by kernel_rfl) ?_
    have hC : MkC2 wb (.slice none 0 0) w4.drew := ⟨hWr.box.cell 2⟩
    have hSd := (WrS.start hWr).below (Below.refl _ _).drew
    generalize w4.drew = wd at hC hSd ⊢
    have hs0 := run_set0
    clear hWr
    apply L.rdt (i := 0) rfl (by kernel_rfl) hC rfl
    · intro W hW
      skip
      unfold readW
      go_simp
      first | rfl | exact ⟨rfl, rfl⟩
    first | simp only [Act.put, p1, p2, p3] | skip
    apply L.rdt (i := 1) rfl (by kernel_rfl) hC rfl
    · intro W hW
      have n0 := hW.c2
      unfold readW
      go_simp
      first | rfl | exact ⟨rfl, rfl⟩
    first | simp only [Act.put, p1, p2, p3] | skip
    apply L.rdt (i := 2) rfl (by kernel_rfl) hC rfl
    · intro W hW
      skip
      unfold readW
      go_simp
      first | rfl | exact ⟨rfl, rfl⟩
    first | simp only [Act.put, p1, p2, p3] | skip
    have hp := put_any hSd.wr (by simp) 5 0 0 0 0 0
    have HP := Lib.hid hp
    have HSD := Lib.hid hSd
    clear hp hSd hC
    apply L.one (i := 3) rfl (by kernel_rfl) rfl
    unfold stepT
    go_simp
    go_at_call 51
    refine (HP.out).mono ?_
    rintro e2 w5 ⟨rfl, ov2, hwr5, hm, hk⟩
    have hS2 := HSD.out.more hwr5 hm (Mvd.refl _ _) (hk.less (o2 := (Value.slice none 0 0).ownBlock))
    have hC2 : MkC2 wb (.slice none 0 0) w5 := ⟨hS2.wr.box.cell 2⟩
    have HS2 := Lib.hid hS2
    clear hwr5 hm hk hS2 HP HSD
    refine ⟨_, rfl, hC2, ?_⟩
    first | simp only [Act.put, p1, p2, p3] | skip
    apply L.one (i := 4) rfl (by kernel_rfl) rfl
    unfold stepT
    go_simp
    have hS3 := HS2.out.alloc (.cells #[.int .i64 0] 3)
    have hC3 : MkC2 wb (.slice none 0 0) (w5.alloc (.cells #[.int .i64 0] 3)) := ⟨hS3.wr.box.cell 2⟩
    have hkb : Blk (w5.alloc (.cells #[.int .i64 0] 3)) w5.heap.size 3 #[.int .i64 0] := blk_at rfl
    generalize (w5.alloc (.cells #[.int .i64 0] 3)) = w6 at hC3 hS3 hkb ⊢
    generalize w5.heap.size = nb at hkb ⊢
    have hl3 := hS3.wr.lo
    refine ⟨hC3, ?_⟩
    apply L.one (i := 5) rfl (by kernel_rfl) rfl
    refine stepT_append_atC (.tmp 33) (.tmp 36) 100 rfl (wb + 1) 3 i0 _ 1 8 Try.underlying100 hi0 hz0 hz1 hz2 rfl (by decide) (.slice none 0 0) 0 [] (by simp [Act.eval]) hS3.wr.calls ⟨nb, 0, none⟩ 1 1 [.int .i64 0] (by simp [Act.eval]) rfl (fun i u hu => by rw [cellC]; exact (hkb.cell i).trans (by rw [List.getElem?_toArray]; exact hu)) (by simp [Value.oneCell']) (by unfold maxLen; omega) (by omega) (by omega) ?_
    intro v' w7 hown4 hgr hat
    obtain ⟨V4, c4, rfl⟩ := own_form hown4
    have hwb4 : Blk w7 wb 110 #[.slice A g.length cp, ov2, .slice none 0 0] := hS3.wr.box.grown hgr (by simp [Value.ownBlock])
    have hout4 := hS3.wr.out.kept hgr (own_apart hS3.wr.out hS3.wr.calls (by decide))
    have hwk4 : Wk wb ov2.ownBlock (Value.slice none 0 0).ownBlock w6 w7 := (Wk.refl _ _ _ _).grown hgr (.inr rfl)
    have hmv : Mvd w6 (Value.slice none 0 0).ownBlock (Value.slice V4 1 c4).ownBlock := by
      rcases hat with h | h
      · exact .inl h
      · exact .inr ⟨_, h, Nat.le_refl _⟩
    have hcl5 : w7.ownsRow (wb + 1) 3 1 (.slice V4 1 c4) ([0] : List Nat).length (nV [0]) := hown4
    have hsz4 := hgr.size
    refine ⟨fun h => absurd h (by decide), ?_⟩
    first | simp only [Act.put, p1, p2, p3] | skip
    apply L.rdl (i := 6) rfl (by kernel_rfl) rfl
    · intro W
      unfold readW
      go_simp
      first | rfl | exact ⟨rfl, rfl⟩
    first | simp only [Act.put, p1, p2, p3] | skip
    have n0 := hwb4.cell 2
    have f2 := hwb4.frozen 2
    have hwb5 : Blk (w7.setCell ⟨wb, 2, none⟩ (.slice V4 1 c4)) wb 110 #[.slice A g.length cp, ov2, .slice V4 1 c4] := hwb4.set_ 2 _
    have hgw : w7.grownBy (w7.setCell ⟨wb, 2, none⟩ (.slice V4 1 c4)) (some wb) := ⟨rfl, rfl, rfl, by simp [World.setCell], fun k _ hne => Below.heap_setCell w7 ⟨wb, 2, none⟩ _ k (by rintro rfl; exact hne rfl)⟩
    have hW5 : WrI (w7.setCell ⟨wb, 2, none⟩ (.slice V4 1 c4)) wb (wb + 1) (.slice A g.length cp) ov2 (.slice V4 1 c4) [iN 5 0] [0] :=
      ⟨⟨by omega, by simp [World.setCell]; omega⟩, hwb5, hout4.kept hgw (.inr fun e => by have := (hout4.lt wb e).1; omega), hcl5.kept hgw (.inr fun e => by have := (hcl5.lt wb e).1; omega)⟩
    have hS5 := hS3.more hW5 (Mvd.refl _ _) hmv (hwk4.set_ (.inl rfl) 2 (.slice V4 1 c4))
    have HS5 := Lib.hid hS5
    clear hS5 hW5 hgw hwb5 hcl5 hmv hwk4 hout4 hown4 hgr hat hS3 hC3 hkb HS2 hC2
    apply L.one (i := 7) rfl (by kernel_rfl) rfl
    unfold stepT
    go_simp
    refine L.done (by kernel_rfl) ?_
    clear n0 f2 hwb4
    generalize (w7.setCell ⟨wb, 2, none⟩ (.slice V4 1 c4)) = w8 at HS5 ⊢
    have hp := put_any HS5.out.wr (by simp) 8 0 0 0 0 0
    have HP := Lib.hid hp
    clear hp hsz4 hl3
    go_wp2_with fail
    refine (HP.out).mono ?_
    rintro e2 w9 ⟨rfl, ov3, hwr5, hm, hk⟩
    have hS6 := HS5.out.more hwr5 hm (Mvd.refl _ _) (hk.less (o2 := (Value.slice V4 1 c4).ownBlock))
    have hgx9 := hS6.box HWR.out HGX.out (by decide) (by decide) (by decide)
    have g9 : w9.cell? ⟨w.heap.size, 0, none⟩ = some (.slice A g.length cp) := hgx9.cell 0
    have HI0 : Hid (MakI g wb (wb + 1) (.slice A g.length cp) (.slice none 0 0) (.slice none 0 0) w4 w.heap.size 0 [] [] (.slice none 0 0) ov3 (.slice V4 1 c4) w9) :=
      ⟨hS6, World.ownsRow_nil _ _ _ _, .inl rfl, by simp, by simp⟩
    have hm8 : g.length <= 9223372036854775807 := by omega
    clear hwr5 hm hk hS6 HP HS5 hgx9
    go_wp2
    rename World => wz
    go_loopw [9, 44] (fun atv iv wr => ∃ (j : Nat) (pre : List In) (E : List Nat) (ov' cv' : Value) (EV : Option Addr) (ec : Nat), atv = .slice EV E.length ec /\ j <= g.length /\ iv = .int .i64 j /\ E.length <= j /\ Hid (MakI g wb (wb + 1) (.slice A g.length cp) (.slice none 0 0) (.slice none 0 0) w4 w.heap.size j pre E atv ov' cv' wr)) (fun _ iv _ => g.length - (intOf iv).toNat)
    case atStart => exact ⟨0, [], [], ov3, .slice V4 1 c4, none, 0, rfl, by omega, rfl, by simp, HI0⟩
    case round =>
      clear HI0 g9
      obtain ⟨j, pre, E, ov', cv', EV, ec, rfl, hj, rfl, hEj, HI⟩ := hrel
      have hlow := HI.out.st.low HWR.out hB
      have hwz := HI.out.st.wk.size
      by_cases hjk : j < g.length
      · obtain ⟨ad, nm, k', a', b', c', d', t', ks', A', cp', rfl, hab, hej, hnm, hE, ⟨e0, e1, e2, e3, e4, e5, e6, e7⟩⟩ := (HG4.out.on hlow).rule hjk
        have hpl := HI.out.plain
        have hpe := HI.out.pe
        rw [drop_of hej] at hpl hpe
        rw [cR] at hpl
        rw [aR] at hpe
        obtain ⟨p1, hp1e⟩ : ∃ p1, p1 = 2 + pre.length := ⟨_, rfl⟩
        rw [<- hp1e] at hpl hpe
        have hlp : p1 + lE (.mk k' a' b' c' d' t' ks') + 1 <= 6000 := by
          have h1 := congrArg List.length hpl
          simp only [List.length_append, List.length_cons, cE_len, cR_len] at h1
          omega
        have hlen : (iN 5 0 :: iN 8 0 :: pre : List In).length = p1 := by rw [hp1e, List.length_cons, List.length_cons]; omega
        have hclen : (0 :: cpos 2 pre : List Nat).length <= p1 := by
          have := cpos_len 2 pre
          rw [List.length_cons]
          omega
        have hSa := HI.out.st.alloc (.cells #[.string nm, .int .i64 k', .int .u64 a', .int .u64 b', .int .u64 c', .int .u64 d', .string t', .slice A' ks'.length cp'] 96)
        have hEa : (wr.alloc (.cells #[.string nm, .int .i64 k', .int .u64 a', .int .u64 b', .int .u64 c', .int .u64 d', .string t', .slice A' ks'.length cp'] 96)).ownsRow w4.heap.size 3 1 (.slice EV E.length ec) E.length (nV E) := HI.out.ends.alloc _
        have hrx : Blk (wr.alloc (.cells #[.string nm, .int .i64 k', .int .u64 a', .int .u64 b', .int .u64 c', .int .u64 d', .string t', .slice A' ks'.length cp'] 96)) wr.heap.size 96 #[.string nm, .int .i64 k', .int .u64 a', .int .u64 b', .int .u64 c', .int .u64 d', .string t', .slice A' ks'.length cp'] := blk_at rfl
        have hap := HI.out.apart
        obtain ⟨V1, c1, yo⟩ := hSa.wr.outCell hlen
        have hadl : ad.block < wr.heap.size := by omega
        have HP1E := Lib.hid hp1e
        have HPL := Lib.hid hpl
        have HPE := Lib.hid hpe
        have HEJ := Lib.hid hej
        have HSA := Lib.hid hSa
        have HEA := Lib.hid hEa
        have HRX := Lib.hid hrx
        have HLEN := Lib.hid hlen
        have hcvl : ∀ k, cv'.ownBlock = some k -> k < wr.heap.size := fun k e => (HI.out.st.wr.calls.lt k e).2
        have HBW : Hid (Below w.heap.size wr (wr.alloc (.cells #[.string nm, .int .i64 k', .int .u64 a', .int .u64 b', .int .u64 c', .int .u64 d', .string t', .slice A' ks'.length cp'] 96))) := (Below.refl _ _).alloc (by omega) _
        have HEX := Lib.hid hE
        clear hp1e hpl hpe hej hSa hEa hrx hlen hE HI
        go_upto_region 14 with fail
        generalize (wr.alloc (.cells #[.string nm, .int .i64 k', .int .u64 a', .int .u64 b', .int .u64 c', .int .u64 d', .string t', .slice A' ks'.length cp'] 96)) = w10 at HSA HEA HRX HBW yo ⊢
        clear e0 e1 e2 e3 e4 e5 e6 e7
        have hz10 : wr.heap.size < w10.heap.size := HRX.out.lt
        have hz11 := HEA.out
        have h4le : w4.heap.size <= w10.heap.size := HSA.out.wk.size
        clear hz11
        go_wp2_with (at_builtin; refine wpList_append_lies _ rfl _ _ _ rfl w4.heap.size 3 i0 _ 1 8 Try.underlying100 hi0 hz0 hz1 hz2 rfl (by omega) (.slice EV E.length ec) E.length (nV E) rfl (HEA.out.alloc _) ⟨w10.heap.size, 0, none⟩ 1 1 [.int .i64 (p1 : Int)] rfl rfl (World.news_of_block (cs := #[.int .i64 (p1 : Int)]) (t := 3) (fr := (0, 0)) (heap_alloc_new w10 _)) (by simp [Value.oneCell']) (by omega) (by unfold maxLen; omega) (by omega) (by simp; omega) (w10.heap.size + 1) (by simp) ?_; intro gg cap w11 hown4 hgrow hat hlt; have hr4 := (HRX.out.alloc (.cells #[.int .i64 (p1 : Int)] 3)).grown hgrow (own_other HEA.out HRX.out (by decide)); have q1 := hr4.cell 1; have q2 := hr4.cell 2; have q3 := hr4.cell 3; have q4 := hr4.cell 4; have q5 := hr4.cell 5; have q6 := hr4.cell 6; have q7 := hr4.cell 7)
        have hS4 := (HSA.out.alloc (.cells #[.int .i64 (p1 : Int)] 3)).ends (HEA.out.alloc _) hap (by omega) hgrow
        have hap4 : (Value.slice (some ⟨gg, 0, none⟩) (E.length + 1) cap).ownBlock = none \/ (Value.slice (some ⟨gg, 0, none⟩) (E.length + 1) cap).ownBlock ≠ cv'.ownBlock := by
          refine .inr fun e => ?_
          rcases hat with h | h
          · rcases hap with h2 | h2
            · rw [h] at h2; cases h2
            · exact h2 (by rw [h]; exact e)
          · have := hcvl gg e.symm
            omega
        have hown5 : w11.ownsRow w4.heap.size 3 1 (.slice (some ⟨gg, 0, none⟩) (E.length + 1) cap) (E ++ [p1]).length (nV (E ++ [p1])) := by
          rw [nV_snoc, List.length_append]
          exact hown4
        have hlow11 := hS4.low HWR.out hB
        have hmem := List.mem_of_getElem? HEJ.out
        have hb11 : Below w.heap.size wr w11 := below_app (HBW.out.alloc (by omega) _) (HEA.out.alloc _) hgrow (by simp; omega) (by omega)
        have hx := wexpr_any (g := g) (B := w.heap.size) (A := some ad) (cp := cp) (row := row) (.mk k' a' b' c' d' t' ks') (HWG.out.right.rt _ hmem) (HWF.out _ hmem) (exCells k' a' b' c' d' t' A' ks'.length cp') w11 wb (wb + 1) ov' cv' (iN 5 0 :: iN 8 0 :: pre) (0 :: cpos 2 pre)
          (HEX.out.on hb11) (HG4.out.on hlow11) hS4.wr hB (by rw [HLEN.out]; omega) (by rw [HLEN.out]; exact hclen)
        rw [HLEN.out] at hx
        unfold exCells at hx
        have HXX := Lib.hid hx
        have HS4 := Lib.hid hS4
        have HW5 := Lib.hid hown5
        clear hx hS4 hown5 hown4 hgrow hat hlt hr4 q1 q2 q3 q4 q5 q6 q7 HSA HEA HRX HBW HEX hb11 hlow11 yo
        refine HXX.out.mono ?_
        rintro e' w12 ⟨rfl, ov2', cv2, hw2, hm1, hm2, hk2⟩
        have hE2 := ends_wk HS4.out.wr (E := E ++ [p1]) (ev := .slice (some ⟨gg, 0, none⟩) (E.length + 1) cap) HW5.out hlow4 hap4 hk2
        have hap5 := apart_mv (ev := .slice (some ⟨gg, 0, none⟩) (E.length + 1) cap) HW5.out hap4 hm2
        have hS5 := HS4.out.more hw2 hm1 hm2 hk2
        have hl5 : (iN 5 0 :: iN 8 0 :: pre ++ cE g id (.mk k' a' b' c' d' t' ks') p1 : List In).length = p1 + lE (.mk k' a' b' c' d' t' ks') := by rw [List.length_append, cE_len, HLEN.out]
        have hp6 := put_any hS5.wr (by rw [hl5]; omega) 6 0 0 0 0 0
        have HP6 := Lib.hid hp6
        have HS5 := Lib.hid hS5
        have HE2 := Lib.hid hE2
        clear hw2 hm1 hm2 hk2 hE2 hS5 hp6 HXX HS4 HW5 hap4 hap
        go_wp2_with fail
        refine HP6.out.mono ?_
        rintro e' w13 ⟨he3, ov3', hw3, hm3, hk3⟩
        subst he3
        have hE3 := ends_wk HS5.out.wr (E := E ++ [p1]) (ev := .slice (some ⟨gg, 0, none⟩) (E.length + 1) cap) HE2.out hlow4 hap5 (hk3.less (o2 := cv2.ownBlock))
        have hS6 := HS5.out.more hw3 hm3 (Mvd.refl _ _) (hk3.less (o2 := cv2.ownBlock))
        have hp1e := HP1E.out
        have hfin : MakI g wb (wb + 1) (.slice (some ad) g.length cp) (.slice none 0 0) (.slice none 0 0) w4 w.heap.size (j + 1) (pre ++ cE g id (.mk k' a' b' c' d' t' ks') p1 ++ [iN 6 0]) (E ++ [p1]) (.slice (some ⟨gg, 0, none⟩) (E.length + 1) cap) ov3' cv2 w13 := by
          have hpl2 : 2 + (pre ++ cE g id (.mk k' a' b' c' d' t' ks') p1 ++ [iN 6 0]).length = p1 + lE (.mk k' a' b' c' d' t' ks') + 1 := by
            simp only [List.length_append, List.length_cons, cE_len, List.length_nil]
            omega
          refine ⟨?_, hE3, hap5, ?_, ?_⟩
          · rw [cpos_app, cpos_app, <- hp1e, cpos_none _ (iN 6 0) (show ((6 : Int)) ≠ 5 by decide), List.append_nil]
            exact hS6
          · rw [hpl2, <- HPL.out]
            simp
          · rw [hpl2, <- HPE.out]
            simp
        have HF := Lib.hid hfin
        clear hfin hE3 hS6 hw3 hm3 hk3 HS5 HE2 HP6 hp1e
        go_wp2
        go_roundw
        case rel => exact ⟨j + 1, _, E ++ [p1], ov3', cv2, some ⟨gg, 0, none⟩, cap, by rw [List.length_append]; rfl, by omega, by go_num, by rw [List.length_append]; show E.length + 1 <= j + 1; omega, HF⟩
        case measure => simp [intOf]; omega
      · obtain rfl : j = g.length := by omega
        have hpl := HI.out.plain
        have hpe := HI.out.pe
        rw [List.drop_length, cR, List.append_nil] at hpl
        rw [List.drop_length, aR, List.append_nil] at hpe
        have hE1 := HI.out.ends
        have hap1 := HI.out.apart
        have hS1 := HI.out.st
        rw [hpl] at hS1
        have hraw : (iN 5 0 :: iN 8 0 :: cR g id g 2 : List In) = rawG g := rfl
        have hc0 : (0 :: cpos 2 (cR g id g 2) : List Nat) = cpos 0 (rawG g) := by
          unfold rawG
          rw [cpos, if_pos (by rfl), cpos, if_neg (show ¬ (iN 8 0).op = 5 from (by decide : ¬ ((8 : Int) = 5)))]
        rw [hraw, hc0] at hS1
        obtain ⟨V2, c2, rfl⟩ := hS1.wr.callForm
        have y2 : wr.cell? ⟨wb, 2, none⟩ = some (.slice V2 (cpos 0 (rawG g)).length c2) := hS1.wr.box.cell 2
        have hCl := cpos_len 0 (rawG g)
        rw [raw_len] at hCl
        have HS1 := Lib.hid hS1
        have HE1 := Lib.hid hE1
        have HPE := Lib.hid hpe
        generalize hCL : cpos 0 (rawG g) = CL at HS1 y2 hCl ⊢
        have HCL := Lib.hid hCL
        clear hCL hS1 hE1 hpl hpe hraw hc0 HI
        have hcap2 := own_capW HS1.out.wr.calls
        obtain ⟨V5, c5, rfl⟩ := HS1.out.wr.outForm
        have hST : ∃ pre post : List In, pre = [] /\ post = rawG g /\ WrS wb (wb + 1) (.slice A g.length cp) (.slice none 0 0) (.slice none 0 0) w4 (pre.map (patch (adG g)) ++ post) CL (.slice V5 (rawG g).length c5) (.slice V2 CL.length c2) wr := ⟨[], rawG g, rfl, rfl, HS1.out⟩
        obtain ⟨pre0, post0, hpre0, hpost0, hST⟩ := hST
        have HST := Lib.hid hST
        have HR0 : Hid (rawG g = pre0 ++ post0) := by show _ = _; rw [hpre0, hpost0]; rfl
        have HC0 : Hid (cpos pre0.length post0 = CL.drop 0) := by show _ = _; rw [hpre0, hpost0]; exact HCL.out
        have hcl6 : CL.length <= 6000 := by omega
        have HRL : Hid ((rawG g).length = lR g + 2) := raw_len g
        have HRC := Lib.hid (raw_calls hpos HWG.out.right.rt)
        generalize hrl : (rawG g).length = rl at HST HRL
        have hrl6 : rl <= 6000 := by have := HRL.out; omega
        have HRLE := Lib.hid hrl
        clear hST hpre0 hpost0 hrl HS1
        go_wp2
        rename World => wy
        go_loopw [13, 63] (fun _ iv wr => ∃ (j2 : Nat) (pre post : List In), j2 <= CL.length /\ iv = .int .i64 j2 /\ Hid (rawG g = pre ++ post) /\ Hid (cpos pre.length post = CL.drop j2) /\ Hid (WrS wb (wb + 1) (.slice A g.length cp) (.slice none 0 0) (.slice none 0 0) w4 (pre.map (patch (adG g)) ++ post) CL (.slice V5 rl c5) (.slice V2 CL.length c2) wr) /\ Hid (wr.ownsRow w4.heap.size 3 1 (.slice EV E.length ec) E.length (nV E))) (fun _ iv _ => CL.length - (intOf iv).toNat)
        case atStart => exact ⟨0, pre0, post0, by omega, rfl, HR0, HC0, HST, HE1⟩
        case round =>
          clear HST HR0 HC0 HE1 y2
          obtain ⟨j2, pre, post, hj2, rfl, HRR, HCC, HST, HE1⟩ := hrel
          by_cases hjn : j2 < CL.length
          · obtain ⟨i, hi⟩ : ∃ i, CL[j2]? = some i := ⟨_, List.getElem?_eq_getElem hjn⟩
            have hcc := HCC.out
            rw [drop_of hi] at hcc
            obtain ⟨q, x, ys, hpost, hx5, hiq, hqp, hcn⟩ := cpos_next (f := adG g) post pre.length i _ hcc
            subst hpost
            have hxm : x ∈ rawG g := by rw [HRR.out]; simp
            obtain ⟨hxn0, hxn1⟩ := HRC.out x hxm hx5
            obtain ⟨xn, hxn⟩ : ∃ xn : Nat, x.n = (xn : Int) := ⟨x.n.toNat, by omega⟩
            have hxl : xn < g.length := by rw [hxn] at hxn1; simpa using hxn1
            obtain ⟨g2, cc2, hv2, hgb2, hgl2⟩ := HST.out.wr.calls.form (by omega)
            simp only [Value.slice.injEq, true_and] at hv2
            obtain ⟨rfl, rfl⟩ := hv2
            have hcell2 : wr.cell? ⟨g2, j2, none⟩ = some (.int .i64 (i : Int)) := by
              have hlt : j2 < CL.length * 1 := by omega
              rw [HST.out.wr.calls.cellAt _ (by omega)]
              unfold nV
              rw [List.getElem?_map, hi]
              rfl
            have hLl : (pre.map (patch (adG g)) ++ (q ++ x :: ys)).length = rl := by
              rw [<- HRLE.out, HRR.out]
              simp only [List.length_append, List.length_map]
            have hil : i < rl := by
              rw [hiq, <- hLl]
              simp only [List.length_append, List.length_map, List.length_cons]
              omega
            have hxi : (pre.map (patch (adG g)) ++ (q ++ x :: ys))[i]? = some x := by
              rw [hiq, List.getElem?_append_right (by simp), List.length_map, Nat.add_sub_cancel_left, List.getElem?_append_right (Nat.le_refl _), Nat.sub_self]
              rfl
            have hout := HST.out.wr.out
            rw [hLl] at hout
            obtain ⟨g1, cc1, hv1, hgb1, hgl1⟩ := hout.form (by omega)
            simp only [Value.slice.injEq, true_and] at hv1
            obtain ⟨rfl, rfl⟩ := hv1
            have hcell1 : wr.cell? ⟨g1, i * 6 + 1, none⟩ = some (.int .i64 (xn : Int)) := by
              have h1 := inCells_get _ i x hxi 1 _ rfl
              rw [hout.cellAt _ (by omega), h1, hxn]
            have hf1 := hout.frozenAt (i * 6 + 1)
            have hEl : E.length = g.length := by rw [HPE.out, aR_len]
            obtain ⟨g3, cc3, hv3, hgb3, hgl3⟩ := HE1.out.form (by omega)
            simp only [Value.slice.injEq, true_and] at hv3
            obtain ⟨rfl, rfl⟩ := hv3
            have hcell3 : wr.cell? ⟨g3, xn, none⟩ = some (.int .i64 ((adG g xn : Nat) : Int)) := by
              rw [HE1.out.cellAt _ (by omega)]
              unfold nV
              rw [List.getElem?_map, HPE.out]
              unfold adG
              rw [List.getD_eq_getElem?_getD, List.getElem?_eq_getElem (by rw [aR_len]; exact hxl)]
              rfl
            have hwbx := HST.out.wr.box
            have hec3 := (own_capW HE1.out).1
            have hnext : WrS wb (wb + 1) (.slice A g.length cp) (.slice none 0 0) (.slice none 0 0) w4 ((pre ++ q ++ [x]).map (patch (adG g)) ++ ys) CL (.slice (some ⟨g1, 0, none⟩) rl c5) (.slice (some ⟨g2, 0, none⟩) CL.length c2) ((wr.drew).setCell ⟨g1, i * 6 + 1, none⟩ (.int .i64 ((adG g xn : Nat) : Int))) := by
              have hout2 : wr.ownsRow (wb + 1) 62 6 (.slice (some ⟨g1, 0, none⟩) (pre.map (patch (adG g)) ++ (q ++ x :: ys)).length c5) (pre.map (patch (adG g)) ++ (q ++ x :: ys)).length (inCells (pre.map (patch (adG g)) ++ (q ++ x :: ys))) := by
                rw [hLl]; exact hout
              have h2 := own_setN hout2 hxi ((adG g xn : Nat) : Int)
              have h3 : setN (pre.map (patch (adG g)) ++ (q ++ x :: ys)) i ((adG g xn : Nat) : Int) = (pre ++ q ++ [x]).map (patch (adG g)) ++ ys := by
                have e1 : (pre.map (patch (adG g)) ++ (q ++ x :: ys)) = (pre.map (patch (adG g)) ++ q) ++ x :: ys := by simp
                have e2 : patch (adG g) x = { x with n := ((adG g xn : Nat) : Int) } := by
                  unfold patch
                  rw [if_pos hx5, hxn]
                  rfl
                rw [e1, setN_at _ _ _ _ (by rw [hiq, List.length_append, List.length_map]), List.map_append, List.map_append, hqp, List.map_cons, List.map_nil, e2]
                simp
              rw [h3] at h2
              have hcl9 : ((wr.drew).setCell ⟨g1, i * 6 + 1, none⟩ (.int .i64 ((adG g xn : Nat) : Int))).ownsRow (wb + 1) 3 1 (.slice (some ⟨g2, 0, none⟩) CL.length c2) CL.length (nV CL) := HST.out.wr.calls.kept (⟨rfl, rfl, rfl, by simp [World.setCell], fun k _ hne => Below.heap_setCell wr.drew ⟨g1, i * 6 + 1, none⟩ _ k (by rintro rfl; exact hne rfl)⟩ : wr.grownBy ((wr.drew).setCell ⟨g1, i * 6 + 1, none⟩ (.int .i64 ((adG g xn : Nat) : Int))) (some g1)) (own_apart HST.out.wr.calls hout (by decide))
              refine HST.out.more ⟨⟨HST.out.wr.lo.1, by simpa [World.setCell] using HST.out.wr.lo.2⟩, (hwbx.far (p := ⟨g1, i * 6 + 1, none⟩) (by show wb ≠ g1; omega) _).drew, ?_, hcl9⟩ (Mvd.refl _ _) (Mvd.refl _ _) ((Wk.of_below (Below.refl _ _).drew).set_ (.inr (.inl rfl)) _ _)
              have hrl2 : ((pre ++ q ++ [x]).map (patch (adG g)) ++ ys).length = rl := by
                rw [<- hLl]
                simp
              rw [hLl] at h2
              rw [hrl2] at h2 ⊢
              exact h2
            have hnE : ((wr.drew).setCell ⟨g1, i * 6 + 1, none⟩ (.int .i64 ((adG g xn : Nat) : Int))).ownsRow w4.heap.size 3 1 (.slice (some ⟨g3, 0, none⟩) E.length ec) E.length (nV E) := HE1.out.kept (⟨rfl, rfl, rfl, by simp [World.setCell], fun k _ hne => Below.heap_setCell wr.drew ⟨g1, i * 6 + 1, none⟩ _ k (by rintro rfl; exact hne rfl)⟩ : wr.grownBy ((wr.drew).setCell ⟨g1, i * 6 + 1, none⟩ (.int .i64 ((adG g xn : Nat) : Int))) (some g1)) (own_apart HE1.out hout (by decide))
            have hq2 : Hid (rawG g = (pre ++ q ++ [x]) ++ ys) := by show _ = _; rw [HRR.out]; simp
            have hq3 : Hid (cpos (pre ++ q ++ [x]).length ys = CL.drop (j2 + 1)) := by
              show _ = _
              rw [hcn, List.length_append, List.length_append]
              rfl
            have HNX := Lib.hid hnext
            have HNE := Lib.hid hnE
            have hi6 : (i : Int) < (rl : Int) := by omega
            have hi0' : (0 : Int) <= (i : Int) := by omega
            have hxl2 : (xn : Int) < (E.length : Int) := by omega
            have hxl0 : (0 : Int) <= (xn : Int) := by omega
            have hcap5 := (own_capW hout).1
            clear hEl hnext hnE hout hxi hil hLl hcn hqp hiq hcc hxn0 hxn1 hxn hxm hx5 HST HE1 HRR HCC hi
            generalize adG g xn = av at hcell3 HNX HNE
            go_upto_region 21 with fail
            refine wp_region_l (fun W => Blk W wb 110 #[.slice A g.length cp, .slice (some ⟨g1, 0, none⟩) rl c5, .slice (some ⟨g2, 0, none⟩) CL.length c2] /\ W.cell? ⟨g1, i * 6 + 1, none⟩ = some (.int .i64 (xn : Int)) /\ W.cell? ⟨g3, xn, none⟩ = some (.int .i64 (av : Int))) (fun k => k == 14) (by kernel_rfl) ?_
            have hC : Blk wr.drew wb 110 #[.slice A g.length cp, .slice (some ⟨g1, 0, none⟩) rl c5, .slice (some ⟨g2, 0, none⟩) CL.length c2] /\ wr.drew.cell? ⟨g1, i * 6 + 1, none⟩ = some (.int .i64 (xn : Int)) /\ wr.drew.cell? ⟨g3, xn, none⟩ = some (.int .i64 (av : Int)) := ⟨hwbx.drew, hcell1, hcell3⟩
            have hf1 : wr.drew.frozen? ⟨g1, i * 6 + 1, none⟩ = false := hf1
            have hcell1 : wr.drew.cell? ⟨g1, i * 6 + 1, none⟩ = some (.int .i64 (xn : Int)) := hcell1
            generalize wr.drew = wd2 at hC hf1 hcell1 HNX HNE ⊢
            apply L.rdt (i := 0) rfl (by kernel_rfl) hC rfl
            · intro W hW
              skip
              unfold readW
              go_simp
              first | rfl | exact ⟨rfl, rfl⟩
            first | simp only [Act.put, p1, p2, p3] | skip
            apply L.rdt (i := 1) rfl (by kernel_rfl) hC rfl
            · intro W hW
              have n0 := hW.1.cell 1
              unfold readW
              go_simp
              first | rfl | exact ⟨rfl, rfl⟩
            first | simp only [Act.put, p1, p2, p3] | skip
            apply L.rdt (i := 2) rfl (by kernel_rfl) hC rfl
            · intro W hW
              skip
              unfold readW
              go_simp
              first | rfl | exact ⟨rfl, rfl⟩
            first | simp only [Act.put, p1, p2, p3] | skip
            apply L.rdt (i := 3) rfl (by kernel_rfl) hC rfl
            · intro W hW
              skip
              unfold readW
              go_simp
              first | rfl | exact ⟨rfl, rfl⟩
            first | simp only [Act.put, p1, p2, p3] | skip
            apply L.rdt (i := 4) rfl (by kernel_rfl) hC rfl
            · intro W hW
              skip
              unfold readW
              go_simp
              first | rfl | exact ⟨rfl, rfl⟩
            first | simp only [Act.put, p1, p2, p3] | skip
            apply L.rdt (i := 5) rfl (by kernel_rfl) hC rfl
            · intro W hW
              have n0 := hW.1.cell 1
              unfold readW
              go_simp
              first | rfl | exact ⟨rfl, rfl⟩
            first | simp only [Act.put, p1, p2, p3] | skip
            apply L.rdt (i := 6) rfl (by kernel_rfl) hC rfl
            · intro W hW
              skip
              unfold readW
              go_simp
              first | rfl | exact ⟨rfl, rfl⟩
            first | simp only [Act.put, p1, p2, p3] | skip
            apply L.rdt (i := 7) rfl (by kernel_rfl) hC rfl
            · intro W hW
              skip
              unfold readW
              go_simp
              first | rfl | exact ⟨rfl, rfl⟩
            first | simp only [Act.put, p1, p2, p3] | skip
            apply L.rdt (i := 8) rfl (by kernel_rfl) hC rfl
            · intro W hW
              skip
              unfold readW
              go_simp
              first | rfl | exact ⟨rfl, rfl⟩
            first | simp only [Act.put, p1, p2, p3] | skip
            apply L.rdt (i := 9) rfl (by kernel_rfl) hC rfl
            · intro W hW
              have n0 := hW.2.1
              unfold readW
              go_simp
              first | rfl | exact ⟨rfl, rfl⟩
            first | simp only [Act.put, p1, p2, p3] | skip
            apply L.rdt (i := 10) rfl (by kernel_rfl) hC rfl
            · intro W hW
              skip
              unfold readW
              go_simp
              first | rfl | exact ⟨rfl, rfl⟩
            first | simp only [Act.put, p1, p2, p3] | skip
            apply L.rdt (i := 11) rfl (by kernel_rfl) hC rfl
            · intro W hW
              have n0 := hW.2.2
              unfold readW
              go_simp
              first | rfl | exact ⟨rfl, rfl⟩
            first | simp only [Act.put, p1, p2, p3] | skip
            apply L.rdt (i := 12) rfl (by kernel_rfl) hC rfl
            · intro W hW
              skip
              unfold readW
              go_simp
              first | rfl | exact ⟨rfl, rfl⟩
            first | simp only [Act.put, p1, p2, p3] | skip
            apply L.rdt (i := 13) rfl (by kernel_rfl) hC rfl
            · intro W hW
              skip
              unfold readW
              go_simp
              first | rfl | exact ⟨rfl, rfl⟩
            first | simp only [Act.put, p1, p2, p3] | skip
            apply L.one (i := 14) rfl (by kernel_rfl) rfl
            unfold stepT
            go_simp
            refine L.done (by kernel_rfl) ?_
            go_wp2
            go_roundw
            case rel => exact ⟨j2 + 1, pre ++ q ++ [x], ys, by omega, by go_num, hq2, hq3, HNX, HNE⟩
            case measure => simp [intOf]; omega
          · obtain rfl : j2 = CL.length := by omega
            have hcc := HCC.out
            rw [List.drop_length] at hcc
            have hST := HST.out
            have hpp : pre.map (patch (adG g)) ++ post = codeG g := by
              rw [<- raw_patch, HRR.out, List.map_append, cpos_over post _ hcc]
            rw [hpp] at hST
            have y1 : wr.cell? ⟨wb, 1, none⟩ = some (.slice V5 rl c5) := hST.wr.box.cell 1
            have hlq : rl = (codeG g).length := by rw [codeG_len, HRL.out]
            have hF : Q (.returned (.tuple #[.slice V5 rl c5, .int .i64 0])) wr := by
              rw [<- HQ.out, hlq]
              have ho := hST.wr.out
              rw [hlq] at ho
              exact ⟨HW4.out.trans (hST.low HWR.out hB), .inr ⟨HMZ.out, V5, c5, rfl, own_monoM ho (by omega)⟩⟩
            have HF := Lib.hid hF
            clear hF hST hpp hcc HST HCC HRR HQ hlq HE1
            go_wp2
            exact HF.out
  · have hx0 : (kerR g != 0) = true := by rw [bne_iff_ne]; exact hk0
    have HF : Hid (∀ W, Below w.heap.size w W -> Q (.returned (.tuple #[.slice none 0 0, .int .i64 (kerR g)])) W) := fun W hb => HQ.out ▸ ⟨hb, .inl (by rw [hmk]; exact ⟨hk0, rfl⟩)⟩
    clear HQ hmk
    go_enter Try.func24, Try.ntmps24
    go_wp2_with fail
    refine (HWL.out _ bl).mono ?_
    rintro e w1 ⟨rfl, hb1⟩
    rw [hw0]
    have hw1 : Below w.heap.size w w1 := ((Below.refl _ w).alloc (Nat.le_refl _) _).trans (hb1.mono (by simp))
    have hgx1 := hgx.below hb1 hgx.lt
    have g1 : w1.cell? ⟨w.heap.size, 0, none⟩ = some (.slice A g.length cp) := hgx1.cell 0
    generalize (wellG g).1 = y1
    clear hb1 hgx hw0
    go_wp2_with fail
    refine (HKR.out _ hw1).mono ?_
    rintro e w2 ⟨hb2, hq⟩
    rcases hq with ⟨_, rfl⟩ | ⟨hz, _⟩
    · have hw2 : Below w.heap.size w w2 := hw1.trans (hb2.mono hw1.size)
      have hz2' := hw2.size
      generalize kerR g = y at hx0 HF ⊢
      clear hb2 hgx1 g1 hk0
      go_wp2
      exact HF.out _ bl
    · exact absurd hz hk0
theorem step_append_row {P : Program} {ops : Array Oper} {o : Oper} {a : Act} {w : World} {K : Act -> World -> Prop} {Q : Exit -> Act -> World -> Prop} {E : Prop}
    (hg : o.guard = none) (s x : Operand) (t : TypeId) (hop : o.op = Op.call { callee := Callee.builtin Builtin.append, args := #[s, x], argTypes := #[t, t] })
    (base : Nat) (e : TypeId) (i : TypeInfo) (z : Value) (size bytes : Nat) (h1 : P.underlying t = some (.slice e)) (h2 : P.info? e = some i) (h3 : i.zero = some z) (h4 : i.size = size) (h5 : i.bytes = bytes) (h6 : z.cells.size = size) (h7 : 0 < size)
    (v : Value) (n : Nat) (xs : List Value) (hs : a.eval s = v) (hown : w.ownsRow base e size v n xs)
    (ad : Addr) (m c : Nat) (news : List Value) (hx : a.eval x = .slice (some ad) m c) (hn : news.length = m * size) (hc : ∀ j u, news[j]? = some u -> w.cell? (ad.add j) = some u) (h1c : ∀ u ∈ news, u.oneCell' = true)
    (b1 : n + m <= maxLen) (b2 : (n + m) * bytes <= 140737488355328) (hb : base <= w.heap.size)
    (hK : ∀ v' w', w'.ownsRow base e size v' (n + m) (xs ++ news) -> w.grownBy w' v.ownBlock -> K (a.put o.dst v') w') :
    if Region.wanted o (yielded ops a.tmps) = true then Oper.wp P o a w K Q else E := by
  have hw : Region.wanted o (yielded ops a.tmps) = true := by simp [Region.wanted, hg]
  rw [if_pos hw]
  obtain ⟨v', w', hrun, r1, r2, _⟩ := run_append_own (P := P) w base t o.type e i z size bytes h1 h2 h3 h4 h5 h6 h7 v n xs hown ad m c news hn hc h1c b1 b2 hb
  unfold Oper.wp
  simp [execOp, hop, resolve, invoke, builtin, hs, hx, hrun, Result.andThen]
  exact hK v' w' r1 r2
theorem new_row (w : World) (t : TypeId) (cs : List Value) : ∀ (j : Nat) (u : Value), cs[j]? = some u -> (w.alloc (.cells cs.toArray t)).cell? ((⟨w.heap.size, 0, none⟩ : Addr).add j) = some u := by
  intro j u h
  have hb : Blk (w.alloc (.cells cs.toArray t)) w.heap.size t cs.toArray := blk_at rfl
  have h1 : (⟨w.heap.size, 0, none⟩ : Addr).add j = ⟨w.heap.size, j, none⟩ := by
    cases j with
    | zero => rfl
    | succ j => simp [Addr.add]
  rw [h1, hb.cell j]
  simpa using h
theorem grown_behind {w w' : World} {o : Obj} {r : Option Nat} (h : (w.alloc o).drew.grownBy w' r) : w.grownBy w' r :=
  ⟨h.os, h.tape, h.output, Nat.le_trans (by simp) h.size, fun k hk hne => (h.block k (by simp; omega) hne).trans (Below.heap_alloc w o k hk)⟩
theorem entry_info : (Try.prog.info? 169).map (fun i => (i.zero, i.size, i.bytes)) = some (some (.agg #[.int .i64 0, .int .i64 0]), 2, 16) := by kernel_rfl
def enC (x : Nat × Int) : List Value := [.int .i64 (x.1 : Int), .int .i64 x.2]
def stkC (st : List (Nat × Int)) : List Value := st.reverse.flatMap enC
theorem stkC_cons (x : Nat × Int) (st : List (Nat × Int)) : stkC (x :: st) = stkC st ++ enC x := by
  unfold stkC
  rw [List.reverse_cons, List.flatMap_append, List.flatMap_cons, List.flatMap_nil, List.append_nil]
theorem stkC_len : ∀ st : List (Nat × Int), (stkC st).length = st.length * 2
  | [] => rfl
  | x :: st => by rw [stkC_cons, List.length_append, stkC_len st]; simp [enC]; omega
def Mach (w : World) (mb : Nat) (s : ByteArray) (m : MS) : Prop :=
  ∃ V cp, Blk w mb 116 #[.string s, .int .i64 (m.pc : Int), .int .i64 (m.at_ : Int), .slice V m.st.length cp] /\ w.ownsRow (mb + 1) 169 2 (.slice V m.st.length cp) m.st.length (stkC m.st)
theorem own_take {w : World} {base : Nat} {e : TypeId} {size n cp : Nat} {V : Option Addr} {ys zs : List Value} (h : w.ownsRow base e size (.slice V (n + 1) cp) (n + 1) (ys ++ zs)) (hl : ys.length = n * size) : w.ownsRow base e size (.slice V n cp) n ys := by
  refine ⟨hl, ?_⟩
  rcases h.2 with ⟨e, _⟩ | ⟨g', c', cur, e, e1, e2, e3, e4, e5, e6⟩
  · cases e
  · simp only [Value.slice.injEq, true_and] at e
    obtain ⟨rfl, rfl⟩ := e
    refine .inr ⟨_, _, cur, rfl, e1, e2, by omega, e4, e5, ?_⟩
    have := congrArg (List.take (n * size)) e6
    have hns : (n + 1) * size = n * size + size := Nat.succ_mul n size
    rw [List.take_take, Nat.min_eq_left (by omega), List.take_append_of_le_length (by omega), List.take_of_length_le (l := ys) (by omega)] at this
    exact this
theorem Mach.below {w w' : World} {mb : Nat} {s : ByteArray} {m : MS} (h : Mach w mb s m) (hb : Below w.heap.size w w') : Mach w' mb s m := by
  obtain ⟨V, cp, h1, h2⟩ := h
  exact ⟨V, cp, h1.below hb h1.lt, own_below h2 hb⟩
theorem grown_field {w : World} (k i : Nat) (u : Value) : w.grownBy (w.setCell ⟨k, i, none⟩ u) (some k) :=
  ⟨rfl, rfl, rfl, by simp [World.setCell], fun q _ hne => Below.heap_setCell w ⟨k, i, none⟩ u q (by rintro rfl; exact hne rfl)⟩
theorem own_not {w : World} {base : Nat} {e : TypeId} {size : Nat} {v : Value} {n : Nat} {xs : List Value} (h : w.ownsRow base e size v n xs) {b : Nat} (hb : b < base) : v.ownBlock ≠ some b := fun e => absurd (h.lt b e).1 (by omega)
theorem Mach.setPc {w : World} {mb : Nat} {s : ByteArray} {m : MS} (h : Mach w mb s m) (pc : Nat) : Mach (w.setCell ⟨mb, 1, none⟩ (.int .i64 (pc : Int))) mb s { m with pc := pc } := by
  obtain ⟨V, cp, h1, h2⟩ := h
  exact ⟨V, cp, h1.set_ 1 _, h2.kept (grown_field mb 1 _) (.inr (own_not h2 (by omega)))⟩
theorem Mach.setAt {w : World} {mb : Nat} {s : ByteArray} {m : MS} (h : Mach w mb s m) (q : Nat) : Mach (w.setCell ⟨mb, 2, none⟩ (.int .i64 (q : Int))) mb s { m with at_ := q } := by
  obtain ⟨V, cp, h1, h2⟩ := h
  exact ⟨V, cp, h1.set_ 2 _, h2.kept (grown_field mb 2 _) (.inr (own_not h2 (by omega)))⟩
def MK (mb : Nat) (w w' : World) : Prop := ∀ k T cs, k ≠ mb -> T ≠ 169 -> Blk w k T cs -> Blk w' k T cs
def PushQ (mb : Nat) (s : ByteArray) (m : MS) (x : Nat × Int) (w : World) (e : Ending) (w' : World) : Prop :=
  ((m.st.length = 10000 /\ e = .returned (.int .i64 14) /\ Mach w' mb s m) \/ (m.st.length ≠ 10000 /\ e = .returned (.int .i64 0) /\ Mach w' mb s { m with st := x :: m.st })) /\ Below mb w w' /\ MK mb w w'
theorem push_any {w : World} {mb : Nat} {s : ByteArray} {m : MS} (h : Mach w mb s m) (hl : m.st.length <= 10000) (p : Nat) (a : Int) :
    Calls Try.prog 87 #[.pointer (some ⟨mb, 0, none⟩), .agg #[.int .i64 (p : Int), .int .i64 a]] w (PushQ mb s m (p, a) w) := by
  obtain ⟨pc, at_, st⟩ := m
  have HH := Lib.hid h
  obtain ⟨V, cp, hb, ho⟩ := h
  obtain ⟨i0, hi0, hz0, hz1, hz2⟩ := info_parts entry_info
  dsimp only at hb ho hl
  have HS := Lib.hid (stkC_cons (p, a) st)
  have y3 : w.cell? ⟨mb, 3, none⟩ = some (.slice V st.length cp) := hb.cell 3
  have hlt := hb.lt
  by_cases hn : st.length = 10000
  · have hq : ((st.length : Int) == 10000) = true := by rw [beq_iff_eq]; omega
    have HN := Lib.hid hn
    clear hn
    go_enter Try.func87, Try.ntmps87
    go_wp2
    go_ret
    exact ⟨.inl ⟨HN.out, rfl, HH.out.below ((Below.refl _ _).alloc (Nat.le_refl _) _)⟩, bl, fun k T cs _ _ h => h.alloc _⟩
  · have hq : ((st.length : Int) == 10000) = false := by rw [beq_eq_false_iff_ne]; omega
    have HN := Lib.hid hn
    have hl2 : st.length < 10000 := by omega
    clear hn hl
    go_enter Try.func87, Try.ntmps87
    go_upto_region 3 with fail
    have hO1 : (w.alloc (.cells #[.int .i64 (p : Int), .int .i64 a] 169)).ownsRow (mb + 1) 169 2 (.slice V st.length cp) st.length (stkC st) := ho.alloc _
    have hB1 : Blk (w.alloc (.cells #[.int .i64 (p : Int), .int .i64 a] 169)) mb 116 #[.string s, .int .i64 (pc : Int), .int .i64 (at_ : Int), .slice V st.length cp] := hb.alloc _
    have hmk : MK mb w (w.alloc (.cells #[.int .i64 (p : Int), .int .i64 a] 169)) := fun k T cs _ _ h => h.alloc _
    have hbw : Below mb w (w.alloc (.cells #[.int .i64 (p : Int), .int .i64 a] 169)) := bl
    have e0 : (w.alloc (.cells #[.int .i64 (p : Int), .int .i64 a] 169)).cell? ⟨w.heap.size, 0, none⟩ = some (.int .i64 (p : Int)) := (blk_at rfl : Blk _ w.heap.size _ _).cell 0
    have e1 : (w.alloc (.cells #[.int .i64 (p : Int), .int .i64 a] 169)).cell? ⟨w.heap.size, 1, none⟩ = some (.int .i64 a) := (blk_at rfl : Blk _ w.heap.size _ _).cell 1
    have hsz : w.heap.size < (w.alloc (.cells #[.int .i64 (p : Int), .int .i64 a] 169)).heap.size := by simp
    have y3 := hB1.cell 3
    have hlt1 := hB1.lt
    generalize hkb : w.heap.size = kb at e0 e1 hsz ⊢
    generalize (w.alloc (.cells #[.int .i64 (p : Int), .int .i64 a] 169)) = w1 at hO1 hB1 hbw hmk e0 e1 hsz y3 hlt1 ⊢
    have HO := Lib.hid hO1
    have HB := Lib.hid hB1
    have HW := Lib.hid hbw
    have HK := Lib.hid hmk
    clear hO1 hB1 hbw hmk ho hb hlt
    go_cut [] (fun wx => Mach wx mb s ⟨pc, at_, (p, a) :: st⟩ /\ Below mb w wx /\ MK mb w wx)
    case first =>
      go_region_law (refine step_append_row rfl (.tmp 15) (.tmp 17) 114 rfl (mb + 1) 169 i0 _ 2 16 Try.underlying114 hi0 hz0 hz1 hz2 rfl (by decide) (.slice V st.length cp) st.length _ (by simp [Act.eval]) (HO.out.alloc _) ⟨w1.heap.size, 0, none⟩ 1 1 [.int .i64 (p : Int), .int .i64 a] (by simp [Act.eval]) rfl (new_row _ _ _) (by simp [Value.oneCell']) (by unfold maxLen; omega) (by omega) (by simp; omega) ?_; intro v' w4 hown4 hgr4; obtain ⟨gg, cap', rfl⟩ := Joins.ownsRow_form hown4 (by omega); have hB4 := ((HB.out.alloc (.cells #[.int .i64 (p : Int), .int .i64 a] 169)).drew).grown hgr4 (fun e => own_not HO.out (by omega) e.symm); have f4 := hB4.frozen 3; have s4 := hB4.cell 3)
      all_goals
        have hG4 : w1.grownBy w4 (Value.slice V st.length cp).ownBlock := grown_behind hgr4
        have hW4 : Below mb w w4 := below_app HW.out HO.out hG4 (by omega) (by omega)
        go_wp2_with fail
        go_meet
        have hK4 : MK mb w w4 := fun k T cs hk hT h => by
          have h1 := HK.out k T cs hk hT h
          refine h1.grown hG4 fun e => hT ?_
          obtain ⟨c2, fz, hcz⟩ := Lib.ownsRow_kind HO.out k e.symm
          have h2 : w1.heap[k]? = some (.cells cs T (0, 0)) := h1
          rw [hcz] at h2
          injection h2 with h2
          injection h2 with _ h3 _
          exact h3.symm
        refine ⟨⟨_, _, hB4.set_ 3 _, ?_⟩, hW4.setCell (by simp) _, fun k T cs hk hT h => (hK4 k T cs hk hT h).far (by simpa using hk) _⟩
        rw [HS.out]
        exact hown4.kept (grown_field mb 3 _) (.inr (own_not hown4 (by omega)))
    case rest =>
    obtain ⟨hM, hbl, hmk⟩ := hcut
    have HM := Lib.hid hM
    have HBL := Lib.hid hbl
    have HMK := Lib.hid hmk
    clear hM hbl hmk
    go_wp2
    go_ret
    exact ⟨.inr ⟨HN.out, rfl, HM.out⟩, HBL.out, HMK.out⟩
theorem gone_refl (w : World) (r : Option Nat) : w.grownBy w r := ⟨rfl, rfl, rfl, Nat.le_refl _, fun _ _ _ => rfl⟩
theorem gone_alloc {w W : World} {r : Option Nat} (h : w.grownBy W r) (o : Obj) : w.grownBy (W.alloc o) r := ⟨h.os, h.tape, h.output, Nat.le_trans h.size (by simp), fun k hk hne => (Below.heap_alloc W o k (Nat.lt_of_lt_of_le hk h.size)).trans (h.block k hk hne)⟩
theorem gone_set {w W : World} {mb : Nat} (h : w.grownBy W (some mb)) (k i : Nat) (hk : k = mb \/ w.heap.size <= k) (u : Value) : w.grownBy (W.setCell ⟨k, i, none⟩ u) (some mb) :=
  ⟨h.os, h.tape, h.output, by simpa [World.setCell] using h.size, fun q hq hne => (Below.heap_setCell W ⟨k, i, none⟩ u q (by rintro rfl; rcases hk with rfl | hk; exact hne rfl; omega)).trans (h.block q hq hne)⟩
theorem gone_drewN {w W : World} {r : Option Nat} (h : w.grownBy W r) (n : Nat) : w.grownBy (W.drewN n) r := ⟨h.os, h.tape, h.output, h.size, h.block⟩
theorem gone_below {w W : World} {mb : Nat} (h : w.grownBy W (some mb)) (hm : mb <= w.heap.size) : Below mb w W := ⟨h.os, h.tape, h.output, h.size, fun k hk => h.block k (by omega) (fun e => by injection e with e; omega)⟩
theorem Mach.top {w : World} {mb : Nat} {s : ByteArray} {pc at_ p : Nat} {a : Int} {st : List (Nat × Int)} (h : Mach w mb s ⟨pc, at_, (p, a) :: st⟩) :
    ∃ g cp, Blk w mb 116 #[.string s, .int .i64 (pc : Int), .int .i64 (at_ : Int), .slice (some ⟨g, 0, none⟩) (st.length + 1) cp] /\ w.cell? ⟨g, st.length * 2, none⟩ = some (.int .i64 (p : Int)) /\ w.cell? ⟨g, st.length * 2 + 1, none⟩ = some (.int .i64 a) /\ mb < g /\ g < w.heap.size /\ st.length + 1 <= cp /\ cp <= maxLen /\
      ∀ W pc' at', w.grownBy W (some mb) -> Blk W mb 116 #[.string s, .int .i64 ((pc' : Nat) : Int), .int .i64 ((at' : Nat) : Int), .slice (some ⟨g, 0, none⟩) st.length cp] -> Mach W mb s ⟨pc', at', st⟩ := by
  obtain ⟨V, cp, hb, ho⟩ := h
  dsimp only [List.length_cons] at hb ho
  obtain ⟨g, cap, hv, hg, hlt⟩ := ho.form (by omega)
  simp only [Value.slice.injEq, true_and] at hv
  obtain ⟨rfl, rfl⟩ := hv
  have hcap : st.length + 1 <= cp /\ cp <= maxLen := by
    rcases ho.2 with ⟨e, e2⟩ | ⟨g', c', cur, e, _, _, e1, e2, _⟩
    · cases e
    · simp only [Value.slice.injEq] at e
      rw [e.2.2]
      exact ⟨e1, e2⟩
  rw [stkC_cons] at ho
  have hl := stkC_len st
  refine ⟨g, cp, hb, ?_, ?_, by omega, hlt, hcap.1, hcap.2, fun W pc' at' hW hbW => ?_⟩
  · rw [ho.cellAt _ (by omega), List.getElem?_append_right (by omega), hl, Nat.sub_self]; rfl
  · rw [ho.cellAt _ (by omega), List.getElem?_append_right (by omega), hl, Nat.add_sub_cancel_left]; rfl
  · have h1 := own_take ho hl
    exact ⟨_, cp, hbW, h1.kept hW (.inr (own_not h1 (by omega)))⟩
def PopQ (mb : Nat) (s : ByteArray) (m : MS) (call : Bool) (w : World) (e : Ending) (w' : World) : Prop :=
  (((∀ p a r, m.st = (p, a) :: r -> decide (a < 0) ≠ call) /\ e = .returned (.tuple #[.agg #[.int .i64 0, .int .i64 0], .bool false])) \/
      (∃ p a r, m.st = (p, a) :: r /\ decide (a < 0) = call /\ e = .returned (.tuple #[.agg #[.int .i64 (p : Int), .int .i64 a], .bool true]) /\ Mach w' mb s { m with st := r })) /\ w.grownBy w' (some mb)
theorem pop_any {w : World} {mb : Nat} {s : ByteArray} {m : MS} (h : Mach w mb s m) (hl : m.st.length <= 10000) (call : Bool) :
    Calls Try.prog 113 #[.pointer (some ⟨mb, 0, none⟩), .bool call] w (PopQ mb s m call w) := by
  obtain ⟨pc, at_, st⟩ := m
  dsimp only at hl
  have hbz : Blk (w.alloc (.cells #[.int .i64 0, .int .i64 0] 169)) w.heap.size 169 #[.int .i64 0, .int .i64 0] := blk_at rfl
  have yz0 : (w.alloc (.cells #[.int .i64 0, .int .i64 0] 169)).cell? ⟨w.heap.size, 0, none⟩ = some (.int .i64 0) := hbz.cell 0; have yz1 : (w.alloc (.cells #[.int .i64 0, .int .i64 0] 169)).cell? ⟨w.heap.size, 1, none⟩ = some (.int .i64 0) := hbz.cell 1; have yf0 := hbz.frozen 0; have yf1 := hbz.frozen 1; have ye0 : ((w.alloc (.cells #[.int .i64 0, .int .i64 0] 169)).setCell ⟨w.heap.size, 0, none⟩ (.int .i64 0)).cell? ⟨w.heap.size, 0, none⟩ = some (.int .i64 0) := (hbz.set_ 0 _).cell 0; have ye1 : (((w.alloc (.cells #[.int .i64 0, .int .i64 0] 169)).setCell ⟨w.heap.size, 0, none⟩ (.int .i64 0)).setCell ⟨w.heap.size, 1, none⟩ (.int .i64 0)).cell? ⟨w.heap.size, 1, none⟩ = some (.int .i64 0) := ((hbz.set_ 0 _).set_ 1 _).cell 1
  cases st with
  | nil =>
    have HH := Lib.hid h
    obtain ⟨V, cp, hb, ho⟩ := h
    have y3 : w.cell? ⟨mb, 3, none⟩ = some (.slice V 0 cp) := hb.cell 3
    have hlt := hb.lt
    clear hb ho hbz
    go_enter Try.func113, Try.ntmps113
    go_wp2
    exact bodyPost_ret (v := .tuple #[.agg #[.int .i64 0, .int .i64 0], .bool false]) (by simp [results, Try.results113, go_sem]) rfl ⟨.inl ⟨(fun _ _ _ e => by cases e), rfl⟩, gone_alloc (gone_refl _ _) _⟩
  | cons x r =>
    obtain ⟨p, a⟩ := x
    obtain ⟨g, cp, hb, t0, t1, hmg, hgw, hc1, hc2, hall⟩ := h.top
    have HA := Lib.hid hall
    have y3 : w.cell? ⟨mb, 3, none⟩ = some (.slice (some ⟨g, 0, none⟩) (r.length + 1) cp) := hb.cell 3
    have hlt := hb.lt
    have hsub : ((r.length + 1 : Nat) : Int) - 1 = (r.length : Int) := by omega
    simp only [List.length_cons] at hl
    clear hall h
    by_cases hc : decide (a < 0) = call
    · have HC := Lib.hid hc
      have hca : (a < 0 /\ call = true) \/ (¬ a < 0 /\ call = false) := by
        by_cases h : a < 0
        · rw [decide_eq_true h] at hc; exact .inl ⟨h, hc.symm⟩
        · rw [decide_eq_false h] at hc; exact .inr ⟨h, hc.symm⟩
      clear hc
      have hf3 := hb.frozen 3
      clear ye0 ye1
      rcases hca with ⟨ha, rfl⟩ | ⟨ha, rfl⟩
      all_goals
        go_enter Try.func113, Try.ntmps113
        go_wp2
        have hG9 := gone_alloc (gone_alloc (gone_set (gone_refl w (some mb)) mb 3 (.inl rfl) (.slice (some ⟨g, 0, none⟩) r.length cp)) (.cells #[.int .i64 (p : Int), .int .i64 a] 169)) (.cells #[.int .i64 (p : Int), .int .i64 a] 169)
        exact bodyPost_ret (v := .tuple #[.agg #[.int .i64 (p : Int), .int .i64 a], .bool true]) (by simp [results, Try.results113, go_sem]) rfl ⟨.inr ⟨p, a, r, rfl, HC.out, rfl, HA.out _ pc at_ hG9 (((hb.set_ 3 _).alloc _).alloc _)⟩, hG9⟩
    · have HC := Lib.hid hc
      have hca : (a < 0 /\ call = false) \/ (¬ a < 0 /\ call = true) := by
        by_cases h : a < 0
        · rw [decide_eq_true h] at hc; exact .inl ⟨h, by cases call; rfl; exact absurd rfl hc⟩
        · rw [decide_eq_false h] at hc; exact .inr ⟨h, by cases call; exact absurd rfl hc; rfl⟩
      clear hc hb hbz
      rcases hca with ⟨ha, rfl⟩ | ⟨ha, rfl⟩
      all_goals
        go_enter Try.func113, Try.ntmps113
        go_wp2
        exact bodyPost_ret (v := .tuple #[.agg #[.int .i64 0, .int .i64 0], .bool false]) (by simp [results, Try.results113, go_sem]) rfl ⟨.inl ⟨(fun p' a' r' e => by injection e with e1 e2; injection e1 with e3 e4; subst e4; exact HC.out), rfl⟩, gone_alloc (gone_refl _ _) _⟩
end Go.Proofs.Ytkmcnekjimobhaa
