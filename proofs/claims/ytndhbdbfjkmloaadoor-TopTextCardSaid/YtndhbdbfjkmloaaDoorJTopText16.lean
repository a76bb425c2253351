/- gram.Read. show.within and show.text. show.Print, and the walk of the law ShowApart. gram.Print. well.star, well.then, well.or. -/
import Derived.Test.YtndhbdbfjkmloaaDoorJTopText15
import Derived.Test.YtndhbdbfjkmloaaDoorJTopText14
import Derived.Test.YtndhbdbfjkmloaaDoorJTopText13
import Derived.Test.YtndhbdbfjkmloaaDoorJTopText7
namespace Go.Proofs.YtndhbdbfjkmloaaDoor
set_option maxHeartbeats 4000000
set_option maxRecDepth 100000
open Go.RowKit Go.Maps
def ReadGQ (s : ByteArray) (w : World) (r : Ending) (w' : World) : Prop :=
  Below w.heap.size w w' /\ ∃ o p x, ReadGR s.data.toList o p x /\ ∃ A cp rows, r = .returned (.tuple #[.agg #[.slice A (o.getD []).length cp], .int .i64 ((p : Nat) : Int), .int .i64 x]) /\
    GrF (fun b => w.heap.size <= b /\ b < w'.heap.size) w'.heap.size w' (o.getD []) A cp rows
theorem GrF.set {S : Nat -> Prop} {hi k : Nat} {W : World} {g : List Rl} {V : Option Addr} {c : Nat} {rows : Nat -> List Value} (h : GrF S hi W g V c rows) (hk : ¬ S k) (i : Nat) (u : Value) : GrF S hi (W.setCell ⟨k, i, none⟩ u) g V c rows :=
  h.keep fun p hp => World.cell?_setCell_other W _ p u (by rintro rfl; exact hk hp)
theorem GrF.allocR {lo : Nat} {W : World} {g : List Rl} {V : Option Addr} {c : Nat} {rows : Nat -> List Value} (h : GrF (fun b => lo <= b /\ b < W.heap.size) W.heap.size W g V c rows) (o : Obj) : GrF (fun b => lo <= b /\ b < (W.alloc o).heap.size) (W.alloc o).heap.size (W.alloc o) g V c rows :=
  (h.keep (W' := W.alloc o) fun p hp => World.cell?_alloc_lt W o p hp.2).mono (fun b hb => ⟨hb.1, by simp; omega⟩) (by simp)
theorem readg_any (s : ByteArray) (w : World) : Calls Tryd.prog 16 #[.string s] w (ReadGQ s w) := by
  have hl := size_list s
  have HQN : Hid (∀ (p : Nat) (x : Int) (W' : World), ReadGR s.data.toList none p x -> Below w.heap.size w W' -> ReadGQ s w (.returned (.tuple #[.agg #[.slice none 0 0], .int .i64 (p : Int), .int .i64 x])) W') :=
    fun p x W' h1 h2 => ⟨h2, none, p, x, h1, none, 0, _, rfl, GrF.nil _ _ _⟩
  have HQS : Hid (∀ (g : List Rl) (A : Option Addr) (cp : Nat) (rows : Nat -> List Value) (W' : World), ReadGR s.data.toList (some g) 0 0 -> Below w.heap.size w W' -> GrF (fun b => w.heap.size <= b /\ b < W'.heap.size) W'.heap.size W' g A cp rows ->
      ReadGQ s w (.returned (.tuple #[.agg #[.slice A g.length cp], .int .i64 0, .int .i64 0])) W') :=
    fun g A cp rows W' h1 h2 h3 => ⟨h2, some g, 0, 0, h1, A, cp, rows, rfl, h3⟩
  generalize ReadGQ s w = Q at HQN HQS ⊢
  have hz1 : (w.alloc (.cells #[.slice none 0 0] 39)).heap.size = w.heap.size + 1 := by simp
  have hbx : Blk (w.alloc (.cells #[.slice none 0 0] 39)) w.heap.size 39 #[.slice none 0 0] := blk_at rfl
  have hb0 : Below w.heap.size w (w.alloc (.cells #[.slice none 0 0] 39)) := bl
  by_cases hs : s.size <= 2000
  · have HW := Lib.hid (fun W => rules_any s (by omega) W)
    have HS := Lib.hid (show s.data.toList.length <= 2000 by rw [hl]; exact hs)
    have hlen := Lib.hid hl
    clear hl
    go_enter Tryd.func16, Tryd.ntmps16
    go_wp2_with fail
    refine (HW.out _).mono ?_
    generalize (w.alloc (.cells #[.slice none 0 0] 39)) = wa at hz1 hbx hb0 ⊢
    rintro e w1 ⟨hb1, R, hwh, ⟨g, A, cp, rows, rfl, rfl, hE⟩ | ⟨l, A, n, cp, rfl, rfl⟩⟩
    · have hb2 := hb0.trans (hb1.mono (by omega))
      have hbx1 := hbx.below hb1 (by omega)
      rw [hz1] at hE
      have hE1 := hE.gr.mono (S' := fun b => w.heap.size + 1 <= b /\ b < w1.heap.size) (fun b hb => ⟨by omega, hb.2⟩) (Nat.le_refl _)
      have hE2 := hE1.allocR (.cells #[.slice A g.length cp] 39)
      have hbx2 := hbx1.alloc (.cells #[.slice A g.length cp] 39)
      have hb3 := hb2.alloc hb2.size (.cells #[.slice A g.length cp] 39)
      have hx2 := Blk.new w1 39 #[.slice A g.length cp]
      have hs1 := hb1.size
      rw [hz1] at hs1
      have HWH := Lib.hid hwh
      clear hE hE1 hbx1 hbx hb2 hb1 hb0 hz1 hwh
      go_upto_region 6 with fail
      generalize (w1.alloc (.cells #[.slice A g.length cp] 39)) = w2 at hE2 hbx2 hb3 hx2 ⊢
      generalize w1.heap.size = xb at hx2 hs1 ⊢
      have y0 := hx2.cell 0
      have hck := gcheck_any hE2.is
      have HCK := Lib.hid hck
      clear hck
      by_cases h0 : checkG g = 0
      · rw [h0] at HCK
        have HP : Hid (ReadGR s.data.toList (some g) 0 0) := .ok _ HS.out HWH.out h0
        clear h0 HWH
        have HEX := Lib.hid hE2
        clear hE2
        go_wp2_with fail
        refine HCK.out.mono ?_
        rintro e w3 ⟨rfl, hb4⟩
        have hx3 := hx2.below hb4 hx2.lt
        have hbx3 := hbx2.below hb4 hbx2.lt
        have hb5 := hb3.trans (hb4.mono hb3.size)
        have HE3 : Hid (GrF (fun b => w.heap.size + 1 <= b /\ b < w3.heap.size) w3.heap.size w3 g A cp rows) := (HEX.out.keep (W' := w3) fun p hp => hb4.cell hp.2).mono (fun b hb => ⟨hb.1, Nat.lt_of_lt_of_le hb.2 hb4.size⟩) hb4.size
        clear hx2 hbx2 hb3 hb4 y0 HEX HCK
        have y0 := hx3.cell 0
        have x0 := hbx3.cell 0
        have f0 := hbx3.frozen 0
        have hob := hbx3.lt
        have hb6 := hb5.setCell (p := ⟨w.heap.size, 0, none⟩) (Nat.le_refl w.heap.size) (.slice A g.length cp)
        have hx6 : Blk (w3.setCell ⟨w.heap.size, 0, none⟩ (.slice A g.length cp)) w.heap.size 39 #[.slice A g.length cp] := hbx3.set_ 0 _
        have hE6 := HE3.out.set (k := w.heap.size) (fun hb => by omega) 0 (.slice A g.length cp)
        have hz6 : (w3.setCell ⟨w.heap.size, 0, none⟩ (.slice A g.length cp)).heap.size = w3.heap.size := by simp [World.setCell]
        rw [<- hz6] at hE6
        have hE7 := hE6.mono (S' := fun b => w.heap.size <= b /\ b < (w3.setCell ⟨w.heap.size, 0, none⟩ (.slice A g.length cp)).heap.size) (fun b hb => ⟨by omega, hb.2⟩) (Nat.le_refl _)
        have HK := Lib.hid (And.intro hb6 (And.intro hx6 hE7))
        clear hb6 hx6 hE6 hE7 hz6 hb5 HE3 hbx3 hx3
        go_wp2
        have hK := HK.out
        clear HK
        generalize (w3.setCell ⟨w.heap.size, 0, none⟩ (.slice A g.length cp)) = w4 at hK ⊢
        obtain ⟨hb6, hx6, hE7⟩ := hK
        have ze0 := hx6.cell 0
        exact bodyPost_ret (v := .tuple #[.agg #[.slice A g.length cp], .int .i64 0, .int .i64 0]) (by simp [results, Tryd.results16, go_sem, ze0]) rfl (HQS.out _ _ _ _ _ HP.out hb6 hE7)
      · have HP : Hid (ReadGR s.data.toList none 0 (checkG g)) := .bad _ HS.out HWH.out h0
        have hne : (checkG g != 0) = true := by rw [bne_iff_ne]; exact h0
        clear h0 HWH hE2
        generalize checkG g = cx at HP HCK hne
        go_wp2_with fail
        refine HCK.out.mono ?_
        rintro e w3 ⟨rfl, hb4⟩
        have hbx3 := hbx2.below hb4 hbx2.lt
        have hb5 := hb3.trans (hb4.mono hb3.size)
        clear hx2 hbx2 hb3 hb4 y0 HCK
        have x0 := hbx3.cell 0
        have f0 := hbx3.frozen 0
        have hob := hbx3.lt
        have hb6 := hb5.setCell (p := ⟨w.heap.size, 0, none⟩) (Nat.le_refl w.heap.size) (.slice none 0 0)
        have hx6 : Blk (w3.setCell ⟨w.heap.size, 0, none⟩ (.slice none 0 0)) w.heap.size 39 #[.slice none 0 0] := hbx3.set_ 0 _
        have HK := Lib.hid (And.intro hb6 hx6)
        clear hb6 hx6 hb5 hbx3
        go_wp2
        have ze0 := HK.out.2.cell 0
        exact bodyPost_ret (v := .tuple #[.agg #[.slice none 0 0], .int .i64 0, .int .i64 cx]) (by simp [results, Tryd.results16, go_sem, ze0]) rfl (HQN.out 0 cx _ HP.out HK.out.1)
    · have HP : Hid (ReadGR s.data.toList none (posL s l) 4) := by
        have := ReadGR.syn l HS.out hwh
        rw [hlen.out] at this
        exact this
      have hb2 := hb0.trans (hb1.mono (by omega))
      have hbx1 := hbx.below hb1 (by omega)
      have hbx2 := hbx1.alloc (.cells #[.slice A n cp] 39)
      have hb3 := hb2.alloc hb2.size (.cells #[.slice A n cp] 39)
      clear hbx hbx1 hb0 hb1 hb2 hwh hz1
      generalize posL s l = pl at HP ⊢
      go_upto_region 4 with fail
      generalize (w1.alloc (.cells #[.slice A n cp] 39)) = w2 at hbx2 hb3 ⊢
      have hob := hbx2.lt
      have x0 := hbx2.cell 0
      have f0 := hbx2.frozen 0
      have hb6 := hb3.setCell (p := ⟨w.heap.size, 0, none⟩) (Nat.le_refl w.heap.size) (.slice none 0 0)
      have hx6 : Blk (w2.setCell ⟨w.heap.size, 0, none⟩ (.slice none 0 0)) w.heap.size 39 #[.slice none 0 0] := hbx2.set_ 0 _
      have HK := Lib.hid (And.intro hb6 hx6)
      clear hb6 hx6 hb3 hbx2
      go_wp2
      have ze0 := HK.out.2.cell 0
      exact bodyPost_ret (v := .tuple #[.agg #[.slice none 0 0], .int .i64 (pl : Int), .int .i64 4]) (by simp [results, Tryd.results16, go_sem, ze0]) rfl (HQN.out pl 4 _ HP.out HK.out.1)
  · have HP : Hid (ReadGR s.data.toList none 0 2) := .large (by rw [hl]; omega)
    have hgt : (2000 : Int) < (s.size : Int) := by omega
    clear hl hs
    go_enter Tryd.func16, Tryd.ntmps16
    go_upto_region 1 with fail
    generalize (w.alloc (.cells #[.slice none 0 0] 39)) = wa at hz1 hbx hb0 ⊢
    have hob := hbx.lt
    have x0 := hbx.cell 0
    have f0 := hbx.frozen 0
    have hb6 := hb0.setCell (p := ⟨w.heap.size, 0, none⟩) (Nat.le_refl w.heap.size) (.slice none 0 0)
    have hx6 : Blk (wa.setCell ⟨w.heap.size, 0, none⟩ (.slice none 0 0)) w.heap.size 39 #[.slice none 0 0] := hbx.set_ 0 _
    have HK := Lib.hid (And.intro hb6 hx6)
    clear hb6 hx6 hb0 hz1 hbx
    go_wp2
    have ze0 := HK.out.2.cell 0
    exact bodyPost_ret (v := .tuple #[.agg #[.slice none 0 0], .int .i64 0, .int .i64 2]) (by simp [results, Tryd.results16, go_sem, ze0]) rfl (HQN.out 0 2 _ HP.out HK.out.1)
end Go.Proofs.YtndhbdbfjkmloaaDoor
namespace Go.Proofs.YtndhbdbfjkmloaaDoor
set_option maxHeartbeats 8000000
set_option maxRecDepth 100000
open Go.RowKit
theorem str_app2 (a b : List UInt8) : (⟨a.toArray⟩ : ByteArray) ++ ⟨b.toArray⟩ = ⟨(a ++ b).toArray⟩ := by
  apply ByteArray.ext
  simp
theorem to_bytes {u : ByteArray} {l : List UInt8} (h : u.data.toList = l) : u = ⟨l.toArray⟩ := by
  rw [<- h, text_back]
def DoesT (e : Ex) : Prop := ∀ (k a b c d : Int) (t : ByteArray) (ks : List Ex) (A : Option Addr) (cp : Nat) (w : World), e = .mk k a b c d t ks -> ExIs w w.heap.size e (exCells k a b c d t A ks.length cp) -> TabAt w ->
  Calls Tryd.prog 28 #[.agg #[.int .i64 k, .int .u64 a, .int .u64 b, .int .u64 c, .int .u64 d, .string t, .slice A ks.length cp]] w fun r w' => r = .returned (.string ⟨(txE e).toArray⟩) /\ Below w.heap.size w w'
theorem within_any2 {e : Ex} (hT : DoesT e) (hlen : (txE e).length <= 1000000) (least : Nat) (k a b c d : Int) (t : ByteArray) (ks : List Ex) (A : Option Addr) (cp : Nat) (w : World) (he : e = .mk k a b c d t ks) (hx : ExIs w w.heap.size e (exCells k a b c d t A ks.length cp)) (hTab : TabAt w) :
    Calls Tryd.prog 58 #[.agg #[.int .i64 k, .int .u64 a, .int .u64 b, .int .u64 c, .int .u64 d, .string t, .slice A ks.length cp], .int .i64 (least : Int)] w fun r w' => r = .returned (.string ⟨(brk e least (txE e)).toArray⟩) /\ Below w.heap.size w w' := by
  have HT := Lib.hid (fun W (hW : Below w.heap.size w W) => hT k a b c d t ks A cp W he (hx.grow hW) (hTab.below hW hTab.pos))
  have hbx : Blk (w.alloc (.cells #[.int .i64 k, .int .u64 a, .int .u64 b, .int .u64 c, .int .u64 d, .string t, .slice A ks.length cp] 27)) w.heap.size 27 #[.int .i64 k, .int .u64 a, .int .u64 b, .int .u64 c, .int .u64 d, .string t, .slice A ks.length cp] := blk_at rfl
  have hbw : Below w.heap.size w (w.alloc (.cells #[.int .i64 k, .int .u64 a, .int .u64 b, .int .u64 c, .int .u64 d, .string t, .slice A ks.length cp] 27)) := bl
  have HLV := Lib.hid (fun W => level_any k a b c d t A ks.length cp W)
  have HK : Hid (brk e least (txE e) = if lvl k < least then 40 :: (txE e ++ [41]) else txE e) := by
    show _ = _
    rw [he]
    rfl
  generalize brk e least (txE e) = B at HK ⊢
  generalize txE e = T at HT HK hlen
  generalize lvl k = v at HLV HK
  clear he hx hTab hT
  go_enter Tryd.func58, Tryd.ntmps58
  go_wp2_with fail
  refine (HT.out _ hbw).mono ?_
  rintro r w1 ⟨rfl, hb1'⟩
  have hb1 := hbw.trans (hb1'.mono hbw.size)
  have hbx1 := hbx.below hb1' (by simp)
  have x0 := hbx1.cell 0
  have x1 := hbx1.cell 1
  have x2 := hbx1.cell 2
  have x3 := hbx1.cell 3
  have x4 := hbx1.cell 4
  have x5 := hbx1.cell 5
  have x6 := hbx1.cell 6
  clear hb1' hbx hbx1
  go_wp2_with fail
  refine (HLV.out _).mono ?_
  rintro r w2 ⟨rfl, hb2⟩
  have hb := hb1.trans (hb2.mono hb1.size)
  have n1 : ¬ 9223372036854775807 < 1 + T.length := by omega
  have n2 : ¬ 9223372036854775807 < 1 + T.length + 1 := by omega
  by_cases hlt : v < least
  · have hK : B = 40 :: (T ++ [41]) := by rw [HK.out, if_pos hlt]
    go_wp2
    go_ret
    exact ⟨by rw [hK, show (40 :: (T ++ [41]) : List UInt8) = ([40] ++ T) ++ [41] from rfl, <- str_app2, <- str_app2]; rfl, hb⟩
  · have hK : B = T := by rw [HK.out, if_neg hlt]
    go_wp2
    go_ret
    exact ⟨by rw [hK]; rfl, hb⟩
def strX (l : List (List UInt8)) : List Value := l.map fun x => .string ⟨x.toArray⟩
theorem str_infoX : (Tryd.prog.info? 9).map (fun i => (i.zero, i.size, i.bytes)) = some (some (.string ByteArray.empty), 1, 16) := by kernel_rfl
theorem cell_atX {w : World} {g k : Nat} : w.cell? ((⟨g, 0, none⟩ : Addr).add k) = w.cell? ⟨g, 0 + k, none⟩ := by
  cases k with
  | zero => rfl
  | succ k => simp [Addr.add]
theorem rangeF : rangeL 0 256 = [18446744073709551615, 18446744073709551615, 18446744073709551615, 18446744073709551615] := by decide +kernel
theorem full_any (w : World) : Calls Tryd.prog 56 #[.int .i64 0, .int .i64 255] w fun e w' => e = .returned (.agg #[.int .u64 wM, .int .u64 wM, .int .u64 wM, .int .u64 wM]) /\ Below w.heap.size w w' := by
  refine (range_any 0 255 w (by unfold I64; omega) (by unfold I64; omega) 0 256 (.inl ⟨by omega, rfl⟩) (by decide)).mono fun e w' ⟨h, hb⟩ => ⟨?_, hb⟩
  rw [h, rangeF]
  rfl
theorem nodes_mem {e : Ex} : ∀ {ks : List Ex}, e ∈ ks -> nodes e <= nodesAll ks
  | _ :: _, .head _ => by rw [nodesAll]; omega
  | _ :: _, .tail _ h => by rw [nodesAll]; have := nodes_mem h; omega
theorem text_any (e : Ex) : Rtx e -> nodes e <= 60 -> DoesT e := by
  induction e using Ex.ind with
  | h k a b c d t ks ih =>
    intro hR hn k' a' b' c' d' t' ks' A cp w he hx hTab
    injection he with e1 e2 e3 e4 e5 e6 e7
    subst e1 e2 e3 e4 e5 e6 e7
    have hlen := tx_len _ hR
    have hL : (txE (.mk k a b c d t ks)).length <= 200000 := by omega
    cases hR with
    | mk _ _ _ _ _ _ _ hf ha hb hc hd hks =>
    have hpos := hTab.pos
    have htz := hx.len.1
    have hmx := hx.len.2.2.2.1
    have hmn := hx.len.2.2.1
    obtain ⟨T, hT⟩ : ∃ T, T = txE (.mk k a b c d t ks) := ⟨_, rfl⟩
    rw [<- hT] at hL ⊢
    rw [txE] at hT
    have hbw : Below w.heap.size w (w.alloc (.cells #[.int .i64 k, .int .u64 a, .int .u64 b, .int .u64 c, .int .u64 d, .string t, .slice A ks.length cp] 27)) := bl
    have hbx : Blk (w.alloc (.cells #[.int .i64 k, .int .u64 a, .int .u64 b, .int .u64 c, .int .u64 d, .string t, .slice A ks.length cp] 27)) w.heap.size 27 #[.int .i64 k, .int .u64 a, .int .u64 b, .int .u64 c, .int .u64 d, .string t, .slice A ks.length cp] := blk_at rfl
    have x0 := hbx.cell 0
    have x1 := hbx.cell 1
    have x2 := hbx.cell 2
    have x3 := hbx.cell 3
    have x4 := hbx.cell 4
    have x5 := hbx.cell 5
    have x6 := hbx.cell 6
    rcases fit_what hf with ⟨rfl, hz⟩ | ⟨rfl, hz⟩ | ⟨rfl, ht, hz⟩ | ⟨rfl, ht, hz⟩ | ⟨hk, hz1, hz, hn2, hn8⟩ | ⟨hk, hz1, hz, hn1⟩
    · rw [if_pos rfl] at hT
      have HT := Lib.hid hT
      clear hT ih hks hx hz
      go_enter Tryd.func28, Tryd.ntmps28
      go_wp2
      go_ret
      exact ⟨by rw [HT.out]; rfl, hbw⟩
    · rw [if_neg (by decide), if_pos rfl] at hT
      obtain ⟨q, hq⟩ : ∃ q, (a == wM && (b == wM && (c == wM && d == wM))) = q := ⟨_, rfl⟩
      have hsm := fun W => run_same_set W a b c d wM wM wM wM
      rw [hq] at hsm
      obtain ⟨hwd, hes⟩ := words_of ha hb hc hd
      have HCL := Lib.hid (fun W hT => class_any [a.toNat, b.toNat, c.toNat, d.toNat] hwd W hT)
      have hvv : vals [a.toNat, b.toNat, c.toNat, d.toNat] = .agg #[.int .u64 a, .int .u64 b, .int .u64 c, .int .u64 d] := by
        unfold vals
        simp [Int.toNat_of_nonneg ha.1, Int.toNat_of_nonneg hb.1, Int.toNat_of_nonneg hc.1, Int.toNat_of_nonneg hd.1]
      rw [hvv] at HCL
      have hq3 : (q = true /\ T = [46]) \/ (q = false /\ T = clsAll [a.toNat, b.toNat, c.toNat, d.toNat]) := by
        by_cases hF : a = wM /\ b = wM /\ c = wM /\ d = wM
        · rw [if_pos hF] at hT
          refine .inl ⟨?_, hT⟩
          rw [<- hq, hF.1, hF.2.1, hF.2.2.1, hF.2.2.2]
          rfl
        · rw [if_neg hF] at hT
          refine .inr ⟨?_, hT⟩
          cases hb : q with
          | false => rfl
          | true =>
            rw [hb] at hq
            simp only [Bool.and_eq_true, beq_iff_eq] at hq
            exact absurd ⟨hq.1, hq.2.1, hq.2.2.1, hq.2.2.2⟩ hF
      have HT := Lib.hid hq3
      have HFA := Lib.hid (fun W => full_any W)
      generalize wM = M at hsm HFA
      clear hT ih hks hx hz hq hq3 hvv
      go_enter Tryd.func28, Tryd.ntmps28
      go_wp2_with fail
      refine wp_region_q (fun W => Below w.heap.size w W /\ Blk W w.heap.size 27 #[.int .i64 2, .int .u64 a, .int .u64 b, .int .u64 c, .int .u64 d, .string t, .slice A ks.length cp]) (by kernel_rfl) (by kernel_rfl) ⟨hbw.drew, hbx.drew⟩ ?_
      repeat
        (first | ((with_reducible apply QW.free rfl); · (intro W hW; obtain ⟨q1, q2⟩ := hW; have g1 := q2.cell 1; have g2 := q2.cell 2; have g3 := q2.cell 3; have g4 := q2.cell 4; go_simp; first | (go_at_call 56; refine (HFA.out _).mono ?_; rintro e w' ⟨rfl, hbb⟩; exact ⟨rfl, q1.trans (hbb.mono q1.size), q2.below hbb q2.lt⟩) | rfl | exact hsm _)) | ((with_reducible apply QW.skip rfl); · (first | exact ⟨_, _, rfl, rfl, .inl rfl⟩ | exact ⟨_, _, rfl, rfl, .inr rfl⟩)) | ((with_reducible apply QW.take rfl); (· exact ⟨_, rfl, rfl⟩); (· (intro W hW; obtain ⟨q1, q2⟩ := hW; have g1 := q2.cell 1; have g2 := q2.cell 2; have g3 := q2.cell 3; have g4 := q2.cell 4; go_simp; first | (go_at_call 56; refine (HFA.out _).mono ?_; rintro e w' ⟨rfl, hbb⟩; exact ⟨rfl, q1.trans (hbb.mono q1.size), q2.below hbb q2.lt⟩) | rfl | exact hsm _)))); (try simp only [Act.put, List.setIfInBounds_toArray, List.set_cons_zero, List.set_cons_succ])
      refine QW.nil ?_
      rintro w1 ⟨q1, q2⟩
      have g1 := q2.cell 1
      have g2 := q2.cell 2
      have g3 := q2.cell 3
      have g4 := q2.cell 4
      rcases HT.out with ⟨rfl, rfl⟩ | ⟨rfl, hT⟩
      · go_wp2
        go_ret
        exact ⟨rfl, q1⟩
      · have HT2 := Lib.hid hT
        clear hT
        go_wp2_with fail
        refine (HCL.out _ (hTab.below q1 hpos)).mono ?_
        rintro r w2 ⟨⟨u, rfl, hu⟩, hb2⟩
        have hu' := to_bytes hu
        go_wp2
        go_ret
        exact ⟨by rw [HT2.out]; first | rfl | (rw [hu']; rfl), q1.trans (hb2.mono q1.size)⟩
    · rw [if_neg (by decide), if_neg (by decide), if_pos rfl] at hT
      have HT := Lib.hid hT
      have HLT := Lib.hid (fun W => lit_any t W (by have := size_list t; have := ht.2; omega))
      clear hT ih hks hx hz
      go_enter Tryd.func28, Tryd.ntmps28
      go_wp2_with fail
      refine (HLT.out _).mono ?_
      rintro r w1 ⟨⟨u, rfl, hu⟩, hb1⟩
      have hu' := to_bytes hu
      go_wp2
      go_ret
      exact ⟨by rw [HT.out]; first | rfl | (rw [hu']; rfl), hbw.trans (hb1.mono hbw.size)⟩
    · rw [if_neg (by decide), if_neg (by decide), if_neg (by decide), if_pos rfl] at hT
      have HT := Lib.hid hT
      clear hT ih hks hx hz ht
      go_enter Tryd.func28, Tryd.ntmps28
      go_wp2
      go_ret
      exact ⟨by rw [HT.out, text_back]; rfl, hbw⟩
    · have hnk : nodesAll ks <= 59 := by
        rw [nodes] at hn
        omega
      have IH := Lib.hid (fun e (he : e ∈ ks) => ih e he (hks e he) (Nat.le_trans (nodes_mem he) (by omega)))
      have HKL := Lib.hid (fun e (he : e ∈ ks) => tx_len e (hks e he))
      have HX := Lib.hid hx
      have HNM := Lib.hid (fun e (he : e ∈ ks) => nodes_mem he)
      obtain ⟨i0, hi0, hz0', hz1', hz2'⟩ := info_parts str_infoX
      unfold maxLen at hmx
      rcases hk with rfl | rfl
      · skip
        simp only [Int.reduceEq, if_false] at hT
        have HT := Lib.hid hT
        have HJL := Lib.hid (join_txL 3 [32] (by decide) ks HKL.out)
        clear hT ih hks hx hz hz1
        go_enter Tryd.func28, Tryd.ntmps28
        go_wp2
        go_loopw [5, 7, 76] (fun v _ i wr => ∃ j : Nat, j <= ks.length /\ i = .int .i64 j /\ (∃ V vp, v = .slice V j vp /\ Hid (wr.ownsRow (w.heap.size + 1) 9 1 (.slice V j vp) j (strX (txL 3 (ks.take j))))) /\ Below w.heap.size w wr /\ w.heap.size + 1 <= wr.heap.size) (fun _ _ i _ => ks.length - (intOf i).toNat)
        case atStart => exact ⟨0, by omega, rfl, ⟨none, 0, rfl, ⟨rfl, .inl ⟨rfl, rfl⟩⟩⟩, hbw, by simp⟩
        case round =>
          obtain ⟨j, hj, rfl, ⟨V, vp, rfl, HOWN⟩, hwr, hws⟩ := hrel
          by_cases hjk : j < ks.length
          · have HD : Hid (ks.take (j + 1) = ks.take j ++ [ks[j]]) := by
              show _ = _
              exact take_succ_of (List.getElem?_eq_getElem hjk)
            obtain ⟨ad, k1, a1, b1, c1, d1, t1, ks1, A1, cp1, rfl, hab, hej, hx1, hS⟩ := HX.out.kid (j := j) hjk
            have hmem := List.mem_of_getElem? hej
            have hk1 := fun (q : Addr) (hq : q.block = (ad.add (j * 7)).block) => hwr.cell (p := q) (by rw [hq, add_block]; exact hab)
            have y0 := (hk1 _ rfl).trans hS.c0
            have y1 := (hk1 ⟨_, _, none⟩ rfl).trans hS.c1
            have y2 := (hk1 ⟨_, _, none⟩ rfl).trans hS.c2
            have y3 := (hk1 ⟨_, _, none⟩ rfl).trans hS.c3
            have y4 := (hk1 ⟨_, _, none⟩ rfl).trans hS.c4
            have y5 := (hk1 ⟨_, _, none⟩ rfl).trans hS.c5
            have y6 := (hk1 ⟨_, _, none⟩ rfl).trans hS.c6
            have hl1 := HKL.out _ hmem
            have hnm := HNM.out _ hmem
            have HCall := Lib.hid (fun W (hW : Below w.heap.size w W) => within_any2 (IH.out _ hmem) (by omega) 3 k1 a1 b1 c1 d1 t1 ks1 A1 cp1 W rfl (hx1.grow hW) (hTab.below hW hpos))
            rw [show ((3 : Nat) : Int) = 3 from rfl] at HCall
            have HSN : Hid (strX (txL 3 (ks.take (j + 1))) = strX (txL 3 (ks.take j)) ++ [.string ⟨(brk (.mk k1 a1 b1 c1 d1 t1 ks1) 3 (txE (.mk k1 a1 b1 c1 d1 t1 ks1))).toArray⟩]) := by
              show _ = _
              have hej2 : ks[j] = .mk k1 a1 b1 c1 d1 t1 ks1 := by rw [List.getElem?_eq_getElem hjk] at hej; exact Option.some.inj hej
              rw [HD.out, txL_map, txL_map, hej2]
              unfold strX
              simp
            have hbl := brk_len (.mk k1 a1 b1 c1 d1 t1 ks1) 3 (txE (.mk k1 a1 b1 c1 d1 t1 ks1))
            generalize brk (.mk k1 a1 b1 c1 d1 t1 ks1) 3 (txE (.mk k1 a1 b1 c1 d1 t1 ks1)) = F at HCall HSN hbl
            have hj0 : (0 : Int) <= (j : Int) := by omega
            have hj1 : (j : Int) < (ks.length : Int) := by omega
            clear hS hx1 HD hk1 hej hmem
            have hwo := hwr.alloc hwr.size (.cells #[.int .i64 k1, .int .u64 a1, .int .u64 b1, .int .u64 c1, .int .u64 d1, .string t1, .slice A1 ks1.length cp1] 27)
            go_wp2_with fail
            refine (HCall.out _ hwo).mono ?_
            rintro e w2 ⟨rfl, hb2⟩
            have hw2 : Below w.heap.size w w2 := hwo.trans (hb2.mono hwo.size)
            have hs2 := hb2.size
            have hsa : (wr.alloc (.cells #[.int .i64 k1, .int .u64 a1, .int .u64 b1, .int .u64 c1, .int .u64 d1, .string t1, .slice A1 ks1.length cp1] 27)).heap.size = wr.heap.size + 1 := by simp
            rw [hsa] at hs2
            have hown3 := own_below (HOWN.out.alloc _) hb2
            have hsw := hw2.size
            clear hb2 HOWN hsa
            go_wp2_with (at_builtin; refine wpList_append_lies _ rfl _ _ _ rfl (w.heap.size + 1) 9 i0 _ 1 16 Tryd.underlying74 hi0 hz0' hz1' hz2' rfl (by omega) (.slice V j vp) j _ rfl (hown3.alloc _) ⟨w2.heap.size, 0, none⟩ 1 1 [.string ⟨F.toArray⟩] rfl rfl (World.news_of_block (cs := #[.string ⟨F.toArray⟩]) (t := 9) (fr := (0, 0)) (heap_alloc_new w2 _)) (by intro u hu; simp at hu; subst hu; rfl) (by omega) (by unfold maxLen; omega) (by omega) (by simp; omega) _ rfl ?_; intro g3 cap w3 hown4 hgrow hat hlt)
            go_roundw
            case rel =>
              refine ⟨j + 1, by omega, by go_num, ⟨_, cap, rfl, ?_⟩, below_app (hw2.alloc hsw _) (hown3.alloc _) hgrow (by simp; omega) (by omega), by have := hgrow.size; simp at this; omega⟩
              show World.ownsRow _ _ _ _ _ _ _
              rw [HSN.out]
              exact hown4
            case measure => simp [intOf]; omega
          · obtain rfl : j = ks.length := by omega
            have hta : ks.take ks.length = ks := List.take_length
            rw [hta] at HOWN
            obtain ⟨g, cq, hv, hgb, hgl⟩ := HOWN.out.form (by omega)
            simp only [Value.slice.injEq, true_and] at hv
            obtain ⟨rfl, rfl⟩ := hv
            have hcap : ks.length <= vp := by
              rcases HOWN.out.2 with ⟨e, e2⟩ | ⟨g', c', cur, e, _, _, e1, e2, _⟩
              · cases e
              · simp only [Value.slice.injEq] at e
                rw [e.2.2]
                exact e1
            have hxl : ((txL 3 ks).map fun x => (⟨x.toArray⟩ : ByteArray)).length = ks.length := by rw [List.length_map, txL_len]
            have hmm : (((txL 3 ks).map fun x => (⟨x.toArray⟩ : ByteArray)).map (·.data.toList)) = txL 3 ks := by simp [List.map_map, Function.comp_def]
            have hjl := HJL.out
            have HJ := sh_strings_Join g 0 vp ((txL 3 ks).map fun x => (⟨x.toArray⟩ : ByteArray)) ⟨#[32]⟩ wr (fun k x hx => by
              have := HOWN.out.cells (g := g) rfl k (.string x) (by unfold strX; rw [List.getElem?_map] at hx ⊢; rw [Option.map_eq_some_iff] at hx ⊢; obtain ⟨y, h1, rfl⟩ := hx; exact ⟨y, h1, rfl⟩)
              rwa [cell_atX] at this) hgl (by omega) (by omega) (by rw [hmm]; show (Lib.join (txL 3 ks) [32]).length <= _; omega)
            rw [hxl, hmm] at HJ
            have hsp : (ByteArray.mk #[32]).data.toList = [32] := rfl
            rw [hsp] at HJ
            generalize Lib.join (txL 3 ks) [32] = JJ at HJ HT hjl
            replace HJ := Lib.hid HJ
            clear hxl hmm hjl hsp
            go_wp2_with fail
            refine (HJ.out).mono ?_
            rintro e w2 ⟨rfl, hb2⟩
            go_wp2
            go_ret
            exact ⟨by rw [HT.out]; rfl, hwr.trans (hb2.mono hwr.size)⟩
      · skip
        simp only [Int.reduceEq, if_false, if_true] at hT
        have HT := Lib.hid hT
        have HJL := Lib.hid (join_txL 2 [32, 47, 32] (by decide) ks HKL.out)
        clear hT ih hks hx hz hz1
        go_enter Tryd.func28, Tryd.ntmps28
        go_wp2
        go_loopw [5, 7, 76] (fun v _ i wr => ∃ j : Nat, j <= ks.length /\ i = .int .i64 j /\ (∃ V vp, v = .slice V j vp /\ Hid (wr.ownsRow (w.heap.size + 1) 9 1 (.slice V j vp) j (strX (txL 2 (ks.take j))))) /\ Below w.heap.size w wr /\ w.heap.size + 1 <= wr.heap.size) (fun _ _ i _ => ks.length - (intOf i).toNat)
        case atStart => exact ⟨0, by omega, rfl, ⟨none, 0, rfl, ⟨rfl, .inl ⟨rfl, rfl⟩⟩⟩, hbw, by simp⟩
        case round =>
          obtain ⟨j, hj, rfl, ⟨V, vp, rfl, HOWN⟩, hwr, hws⟩ := hrel
          by_cases hjk : j < ks.length
          · have HD : Hid (ks.take (j + 1) = ks.take j ++ [ks[j]]) := by
              show _ = _
              exact take_succ_of (List.getElem?_eq_getElem hjk)
            obtain ⟨ad, k1, a1, b1, c1, d1, t1, ks1, A1, cp1, rfl, hab, hej, hx1, hS⟩ := HX.out.kid (j := j) hjk
            have hmem := List.mem_of_getElem? hej
            have hk1 := fun (q : Addr) (hq : q.block = (ad.add (j * 7)).block) => hwr.cell (p := q) (by rw [hq, add_block]; exact hab)
            have y0 := (hk1 _ rfl).trans hS.c0
            have y1 := (hk1 ⟨_, _, none⟩ rfl).trans hS.c1
            have y2 := (hk1 ⟨_, _, none⟩ rfl).trans hS.c2
            have y3 := (hk1 ⟨_, _, none⟩ rfl).trans hS.c3
            have y4 := (hk1 ⟨_, _, none⟩ rfl).trans hS.c4
            have y5 := (hk1 ⟨_, _, none⟩ rfl).trans hS.c5
            have y6 := (hk1 ⟨_, _, none⟩ rfl).trans hS.c6
            have hl1 := HKL.out _ hmem
            have hnm := HNM.out _ hmem
            have HCall := Lib.hid (fun W (hW : Below w.heap.size w W) => within_any2 (IH.out _ hmem) (by omega) 2 k1 a1 b1 c1 d1 t1 ks1 A1 cp1 W rfl (hx1.grow hW) (hTab.below hW hpos))
            rw [show ((2 : Nat) : Int) = 2 from rfl] at HCall
            have HSN : Hid (strX (txL 2 (ks.take (j + 1))) = strX (txL 2 (ks.take j)) ++ [.string ⟨(brk (.mk k1 a1 b1 c1 d1 t1 ks1) 2 (txE (.mk k1 a1 b1 c1 d1 t1 ks1))).toArray⟩]) := by
              show _ = _
              have hej2 : ks[j] = .mk k1 a1 b1 c1 d1 t1 ks1 := by rw [List.getElem?_eq_getElem hjk] at hej; exact Option.some.inj hej
              rw [HD.out, txL_map, txL_map, hej2]
              unfold strX
              simp
            have hbl := brk_len (.mk k1 a1 b1 c1 d1 t1 ks1) 2 (txE (.mk k1 a1 b1 c1 d1 t1 ks1))
            generalize brk (.mk k1 a1 b1 c1 d1 t1 ks1) 2 (txE (.mk k1 a1 b1 c1 d1 t1 ks1)) = F at HCall HSN hbl
            have hj0 : (0 : Int) <= (j : Int) := by omega
            have hj1 : (j : Int) < (ks.length : Int) := by omega
            clear hS hx1 HD hk1 hej hmem
            have hwo := hwr.alloc hwr.size (.cells #[.int .i64 k1, .int .u64 a1, .int .u64 b1, .int .u64 c1, .int .u64 d1, .string t1, .slice A1 ks1.length cp1] 27)
            go_wp2_with fail
            refine (HCall.out _ hwo).mono ?_
            rintro e w2 ⟨rfl, hb2⟩
            have hw2 : Below w.heap.size w w2 := hwo.trans (hb2.mono hwo.size)
            have hs2 := hb2.size
            have hsa : (wr.alloc (.cells #[.int .i64 k1, .int .u64 a1, .int .u64 b1, .int .u64 c1, .int .u64 d1, .string t1, .slice A1 ks1.length cp1] 27)).heap.size = wr.heap.size + 1 := by simp
            rw [hsa] at hs2
            have hown3 := own_below (HOWN.out.alloc _) hb2
            have hsw := hw2.size
            clear hb2 HOWN hsa
            go_wp2_with (at_builtin; refine wpList_append_lies _ rfl _ _ _ rfl (w.heap.size + 1) 9 i0 _ 1 16 Tryd.underlying74 hi0 hz0' hz1' hz2' rfl (by omega) (.slice V j vp) j _ rfl (hown3.alloc _) ⟨w2.heap.size, 0, none⟩ 1 1 [.string ⟨F.toArray⟩] rfl rfl (World.news_of_block (cs := #[.string ⟨F.toArray⟩]) (t := 9) (fr := (0, 0)) (heap_alloc_new w2 _)) (by intro u hu; simp at hu; subst hu; rfl) (by omega) (by unfold maxLen; omega) (by omega) (by simp; omega) _ rfl ?_; intro g3 cap w3 hown4 hgrow hat hlt)
            go_roundw
            case rel =>
              refine ⟨j + 1, by omega, by go_num, ⟨_, cap, rfl, ?_⟩, below_app (hw2.alloc hsw _) (hown3.alloc _) hgrow (by simp; omega) (by omega), by have := hgrow.size; simp at this; omega⟩
              show World.ownsRow _ _ _ _ _ _ _
              rw [HSN.out]
              exact hown4
            case measure => simp [intOf]; omega
          · obtain rfl : j = ks.length := by omega
            have hta : ks.take ks.length = ks := List.take_length
            rw [hta] at HOWN
            obtain ⟨g, cq, hv, hgb, hgl⟩ := HOWN.out.form (by omega)
            simp only [Value.slice.injEq, true_and] at hv
            obtain ⟨rfl, rfl⟩ := hv
            have hcap : ks.length <= vp := by
              rcases HOWN.out.2 with ⟨e, e2⟩ | ⟨g', c', cur, e, _, _, e1, e2, _⟩
              · cases e
              · simp only [Value.slice.injEq] at e
                rw [e.2.2]
                exact e1
            have hxl : ((txL 2 ks).map fun x => (⟨x.toArray⟩ : ByteArray)).length = ks.length := by rw [List.length_map, txL_len]
            have hmm : (((txL 2 ks).map fun x => (⟨x.toArray⟩ : ByteArray)).map (·.data.toList)) = txL 2 ks := by simp [List.map_map, Function.comp_def]
            have hjl := HJL.out
            have HJ := sh_strings_Join g 0 vp ((txL 2 ks).map fun x => (⟨x.toArray⟩ : ByteArray)) ⟨#[32, 47, 32]⟩ wr (fun k x hx => by
              have := HOWN.out.cells (g := g) rfl k (.string x) (by unfold strX; rw [List.getElem?_map] at hx ⊢; rw [Option.map_eq_some_iff] at hx ⊢; obtain ⟨y, h1, rfl⟩ := hx; exact ⟨y, h1, rfl⟩)
              rwa [cell_atX] at this) hgl (by omega) (by omega) (by rw [hmm]; show (Lib.join (txL 2 ks) [32, 47, 32]).length <= _; omega)
            rw [hxl, hmm] at HJ
            have hsp : (ByteArray.mk #[32, 47, 32]).data.toList = [32, 47, 32] := rfl
            rw [hsp] at HJ
            generalize Lib.join (txL 2 ks) [32, 47, 32] = JJ at HJ HT hjl
            replace HJ := Lib.hid HJ
            clear hxl hmm hjl hsp
            go_wp2_with fail
            refine (HJ.out).mono ?_
            rintro e w2 ⟨rfl, hb2⟩
            go_wp2
            go_ret
            exact ⟨by rw [HT.out]; rfl, hwr.trans (hb2.mono hwr.size)⟩
    · obtain ⟨e0, rfl⟩ : ∃ e0, ks = [e0] := by
        match ks, hn1 with
        | [e0], _ => exact ⟨e0, rfl⟩
      obtain ⟨ad, k1, a1, b1, c1, d1, t1, ks1, A1, cp1, rfl, hab, hej, hx1, hS⟩ := hx.kid (j := 0) (by simp)
      have he0 : e0 = .mk k1 a1 b1 c1 d1 t1 ks1 := by simpa using hej
      subst he0
      simp only [List.length_singleton] at hbw hbx x0 x1 x2 x3 x4 x5 x6 ⊢
      have hn0 : nodes (.mk k1 a1 b1 c1 d1 t1 ks1) <= 60 := by
        rw [nodes, nodesAll, nodesAll] at hn
        omega
      have hR1 := hks _ (.head _)
      have HD := Lib.hid (ih _ (.head _) hR1 hn0)
      have hl1 := tx_len _ hR1
      have HW := Lib.hid (fun W least (hW : Below w.heap.size w W) => within_any2 HD.out (by omega) least k1 a1 b1 c1 d1 t1 ks1 A1 cp1 W rfl (hx1.grow hW) (hTab.below hW hpos))
      have hbl := fun least => brk_len (.mk k1 a1 b1 c1 d1 t1 ks1) least (txE (.mk k1 a1 b1 c1 d1 t1 ks1))
      replace hS : Seven w ad k1 a1 b1 c1 d1 t1 A1 ks1.length cp1 := hS
      have hk1 := fun (q : Addr) (hq : q.block = ad.block) => hbw.cell (p := q) (by rw [hq]; exact hab)
      have y0 := (hk1 _ rfl).trans hS.c0
      have y1 := (hk1 ⟨_, _, none⟩ rfl).trans hS.c1
      have y2 := (hk1 ⟨_, _, none⟩ rfl).trans hS.c2
      have y3 := (hk1 ⟨_, _, none⟩ rfl).trans hS.c3
      have y4 := (hk1 ⟨_, _, none⟩ rfl).trans hS.c4
      have y5 := (hk1 ⟨_, _, none⟩ rfl).trans hS.c5
      have y6 := (hk1 ⟨_, _, none⟩ rfl).trans hS.c6
      rcases (show k = 7 \/ k = 8 \/ k = 9 \/ k = 10 \/ k = 11 by omega) with rfl | rfl | rfl | rfl | rfl
      · skip
        simp only [Int.reduceEq, if_false, if_true, txL, flat_one] at hT
        have HT := Lib.hid hT
        have hbl4 := hbl 4
        have HW4 := Lib.hid (fun W hW => HW.out W 4 hW)
        rw [show ((4 : Nat) : Int) = 4 from rfl] at HW4
        generalize brk (.mk k1 a1 b1 c1 d1 t1 ks1) 4 (txE (.mk k1 a1 b1 c1 d1 t1 ks1)) = S at HT HW4 hbl4
        clear hT ih hks hx hz hz1 HW hx1 hS hk1
        go_enter Tryd.func28, Tryd.ntmps28
        go_wp2_with fail
        refine (HW4.out _ hbw).mono ?_
        rintro r w1 ⟨rfl, hb1⟩
        have n1 : ¬ 9223372036854775807 < S.length + 1 := by omega
        go_wp2
        go_ret
        exact ⟨by rw [HT.out, <- str_app2]; rfl, hbw.trans (hb1.mono hbw.size)⟩
      · skip
        simp only [Int.reduceEq, if_false, if_true, txL, flat_one] at hT
        have HT := Lib.hid hT
        have hbl4 := hbl 4
        have HW4 := Lib.hid (fun W hW => HW.out W 4 hW)
        rw [show ((4 : Nat) : Int) = 4 from rfl] at HW4
        generalize brk (.mk k1 a1 b1 c1 d1 t1 ks1) 4 (txE (.mk k1 a1 b1 c1 d1 t1 ks1)) = S at HT HW4 hbl4
        clear hT ih hks hx hz hz1 HW hx1 hS hk1
        go_enter Tryd.func28, Tryd.ntmps28
        go_wp2_with fail
        refine (HW4.out _ hbw).mono ?_
        rintro r w1 ⟨rfl, hb1⟩
        have n1 : ¬ 9223372036854775807 < S.length + 1 := by omega
        go_wp2
        go_ret
        exact ⟨by rw [HT.out, <- str_app2]; rfl, hbw.trans (hb1.mono hbw.size)⟩
      · skip
        simp only [Int.reduceEq, if_false, if_true, txL, flat_one] at hT
        have HT := Lib.hid hT
        have hbl4 := hbl 4
        have HW4 := Lib.hid (fun W hW => HW.out W 4 hW)
        rw [show ((4 : Nat) : Int) = 4 from rfl] at HW4
        generalize brk (.mk k1 a1 b1 c1 d1 t1 ks1) 4 (txE (.mk k1 a1 b1 c1 d1 t1 ks1)) = S at HT HW4 hbl4
        clear hT ih hks hx hz hz1 HW hx1 hS hk1
        go_enter Tryd.func28, Tryd.ntmps28
        go_wp2_with fail
        refine (HW4.out _ hbw).mono ?_
        rintro r w1 ⟨rfl, hb1⟩
        have n1 : ¬ 9223372036854775807 < S.length + 1 := by omega
        go_wp2
        go_ret
        exact ⟨by rw [HT.out, <- str_app2]; rfl, hbw.trans (hb1.mono hbw.size)⟩
      · skip
        simp only [Int.reduceEq, if_false, if_true, txL, flat_one] at hT
        have HT := Lib.hid hT
        have hbl3 := hbl 3
        have HW3 := Lib.hid (fun W hW => HW.out W 3 hW)
        rw [show ((3 : Nat) : Int) = 3 from rfl] at HW3
        generalize brk (.mk k1 a1 b1 c1 d1 t1 ks1) 3 (txE (.mk k1 a1 b1 c1 d1 t1 ks1)) = S at HT HW3 hbl3
        clear hT ih hks hx hz hz1 HW hx1 hS hk1
        go_enter Tryd.func28, Tryd.ntmps28
        go_wp2_with fail
        refine (HW3.out _ hbw).mono ?_
        rintro r w1 ⟨rfl, hb1⟩
        have n1 : ¬ 9223372036854775807 < 1 + S.length := by omega
        go_wp2
        go_ret
        exact ⟨by rw [HT.out, show (38 :: S : List UInt8) = [38] ++ S from rfl, <- str_app2]; rfl, hbw.trans (hb1.mono hbw.size)⟩
      · skip
        simp only [Int.reduceEq, if_false, if_true, txL, flat_one] at hT
        have HT := Lib.hid hT
        have hbl3 := hbl 3
        have HW3 := Lib.hid (fun W hW => HW.out W 3 hW)
        rw [show ((3 : Nat) : Int) = 3 from rfl] at HW3
        generalize brk (.mk k1 a1 b1 c1 d1 t1 ks1) 3 (txE (.mk k1 a1 b1 c1 d1 t1 ks1)) = S at HT HW3 hbl3
        clear hT ih hks hx hz hz1 HW hx1 hS hk1
        go_enter Tryd.func28, Tryd.ntmps28
        go_wp2_with fail
        refine (HW3.out _ hbw).mono ?_
        rintro r w1 ⟨rfl, hb1⟩
        have n1 : ¬ 9223372036854775807 < 1 + S.length := by omega
        go_wp2
        go_ret
        exact ⟨by rw [HT.out, show (33 :: S : List UInt8) = [33] ++ S from rfl, <- str_app2]; rfl, hbw.trans (hb1.mono hbw.size)⟩
def prT (e : Ex) : List UInt8 := if checkE e = 0 then txE e else []
def PrQ (e : Ex) (w : World) (r : Ending) (w' : World) : Prop := r = .returned (.tuple #[.string ⟨(prT e).toArray⟩, .int .i64 (checkE e)]) /\ Below w.heap.size w w'
theorem print_any (e : Ex) (hw : WfE e) (k a b c d : Int) (t : ByteArray) (ks : List Ex) (A : Option Addr) (cp : Nat) (w : World) (he : e = .mk k a b c d t ks) (hx : ExIs w w.heap.size e (exCells k a b c d t A ks.length cp)) (hTab : TabAt w) :
    Calls Tryd.prog 12 #[.agg #[.int .i64 k, .int .u64 a, .int .u64 b, .int .u64 c, .int .u64 d, .string t, .slice A ks.length cp]] w (PrQ e w) := by
  have hbx : Blk (w.alloc (.cells #[.int .i64 k, .int .u64 a, .int .u64 b, .int .u64 c, .int .u64 d, .string t, .slice A ks.length cp] 27)) w.heap.size 27 #[.int .i64 k, .int .u64 a, .int .u64 b, .int .u64 c, .int .u64 d, .string t, .slice A ks.length cp] := blk_at rfl
  have hbw : Below w.heap.size w (w.alloc (.cells #[.int .i64 k, .int .u64 a, .int .u64 b, .int .u64 c, .int .u64 d, .string t, .slice A ks.length cp] 27)) := bl
  have HCK := Lib.hid (fun W (hW : Below w.heap.size w W) => check_expr e _ W (hx.grow hW))
  have hpos := hTab.pos
  by_cases h0 : checkE e = 0
  · have HTX := Lib.hid (fun W (hW : Below w.heap.size w W) => text_any e (rt_ofX hw h0) (nodes_leX h0) k a b c d t ks A cp W he (hx.grow hW) (hTab.below hW hpos))
    have HQ : Hid (∀ w', Below w.heap.size w w' -> PrQ e w (.returned (.tuple #[.string ⟨(txE e).toArray⟩, .int .i64 0])) w') := fun w' hb => ⟨by unfold prT; rw [if_pos h0, h0], hb⟩
    rw [h0] at HCK
    unfold exCells at HCK
    generalize PrQ e w = Q at HQ ⊢
    generalize txE e = T at HTX HQ
    clear he hx h0 hw
    go_enter Tryd.func12, Tryd.ntmps12
    go_wp2_with fail
    refine (HCK.out _ hbw).mono ?_
    rintro r w1 ⟨rfl, hb1'⟩
    have hb1 := hbw.trans (hb1'.mono hbw.size)
    have hbx1 := hbx.below hb1' (by simp)
    have x0 := hbx1.cell 0
    have x1 := hbx1.cell 1
    have x2 := hbx1.cell 2
    have x3 := hbx1.cell 3
    have x4 := hbx1.cell 4
    have x5 := hbx1.cell 5
    have x6 := hbx1.cell 6
    clear hb1' hbx hbx1
    go_wp2_with fail
    refine (HTX.out _ hb1).mono ?_
    rintro r w2 ⟨rfl, hb2⟩
    go_wp2
    exact HQ.out _ (hb1.trans (hb2.mono hb1.size))
  · have HQ : Hid (∀ w', Below w.heap.size w w' -> PrQ e w (.returned (.tuple #[.string ⟨#[]⟩, .int .i64 (checkE e)])) w') := fun w' hb => ⟨by unfold prT; rw [if_neg h0], hb⟩
    unfold exCells at HCK
    generalize PrQ e w = Q at HQ ⊢
    generalize checkE e = x at HCK HQ h0
    have hx0 : (x != 0) = true := by rw [bne_iff_ne]; exact h0
    clear he hx h0 hw
    go_enter Tryd.func12, Tryd.ntmps12
    go_wp2_with fail
    refine (HCK.out _ hbw).mono ?_
    rintro r w1 ⟨rfl, hb1'⟩
    have hb1 := hbw.trans (hb1'.mono hbw.size)
    go_wp2
    exact HQ.out _ hb1
def prG (g : List Rl) : List UInt8 := if checkG g = 0 then txG g else []
def PrGQ (g : List Rl) (w : World) (r : Ending) (w' : World) : Prop := r = .returned (.tuple #[.string ⟨(prG g).toArray⟩, .int .i64 (checkG g)]) /\ Below w.heap.size w w'
theorem txG_snoc : ∀ (g : List Rl) (r : Rl), txG (g ++ [r]) = txG g ++ txR r
  | [], r => by simp [txG]
  | x :: g, r => by
    show txR x ++ txG (g ++ [r]) = (txR x ++ txG g) ++ txR r
    rw [txG_snoc g r, List.append_assoc]
theorem takeG {g : List Rl} {j : Nat} {r : Rl} (h : g[j]? = some r) : txG (g.take (j + 1)) = txG (g.take j) ++ txR r := by
  rw [take_succ_of h, txG_snoc]
theorem cat_rule (O nm : ByteArray) (T : List UInt8) (e : Ex) (hT : T = txE e) (X : List UInt8) (hO : O.data.toList = X) :
    (O ++ (nm ++ ⟨#[32, 60, 45, 32]⟩ ++ ⟨T.toArray⟩ ++ ⟨#[10]⟩)).data.toList = X ++ txR (nm, e) := by
  subst hT hO
  unfold txR
  simp
theorem list_back {O : ByteArray} {l : List UInt8} (h : O.data.toList = l) : O = ⟨l.toArray⟩ := by
  rw [<- h, text_back]
theorem gprint_any (g : List Rl) (hw : ∀ r ∈ g, WfE r.2) (A : Option Addr) (cp : Nat) (row : Nat -> List Value) (w : World) (h : GrIs w w.heap.size g A cp row) (hTab : TabAt w) :
    Calls Tryd.prog 17 #[.agg #[.slice A g.length cp]] w (PrGQ g w) := by
  have hpos := hTab.pos
  have HCK := Lib.hid (fun W (hW : Below w.heap.size w W) => gcheck_any ((h.on hW).more hW.size))
  have HG := Lib.hid h
  have HTB := Lib.hid hTab
  have hb0 : Below w.heap.size w (w.alloc (.cells #[.slice A g.length cp] 39)) := bl
  have hbx : Blk (w.alloc (.cells #[.slice A g.length cp] 39)) w.heap.size 39 #[.slice A g.length cp] := blk_at rfl
  clear hTab
  by_cases h0 : checkG g = 0
  · have hok := rtG_of hw h0
    have HOK := Lib.hid hok
    have hgl : g.length <= 10 := hok.2.2.1
    have HQ : Hid (∀ w', Below w.heap.size w w' -> PrGQ g w (.returned (.tuple #[.string ⟨(txG g).toArray⟩, .int .i64 0])) w') := fun w' hb => ⟨by unfold prG; rw [if_pos h0, h0], hb⟩
    rw [h0] at HCK
    have HW := Lib.hid hw
    generalize PrGQ g w = Q at HQ ⊢
    clear h hok h0 hw
    go_enter Tryd.func17, Tryd.ntmps17
    go_wp2_with fail
    refine (HCK.out _ hb0).mono ?_
    generalize (w.alloc (.cells #[.slice A g.length cp] 39)) = wa at hb0 hbx ⊢
    rintro r w1 ⟨rfl, hb1'⟩
    have hb1 := hb0.trans (hb1'.mono hb0.size)
    have hbx1 := hbx.below hb1' hbx.lt
    clear hb0 hbx hb1'
    have y0 := hbx1.cell 0
    go_wp2_with fail
    go_loopw [5, 18] (fun o i wr => ∃ (j : Nat) (O : ByteArray), j <= g.length /\ i = .int .i64 j /\ o = .string O /\ Hid (O.data.toList = txG (g.take j)) /\ O.size <= j * 200000 /\ Below w.heap.size w wr) (fun _ i _ => g.length - (intOf i).toNat)
    case atStart => exact ⟨0, ⟨#[]⟩, by omega, rfl, rfl, (by rfl : (⟨#[]⟩ : ByteArray).data.toList = txG (g.take 0)), (by show (0 : Nat) <= 0 * 200000; omega), hb1⟩
    case round =>
      obtain ⟨j, O, hj, rfl, rfl, HO, hOs, hwr⟩ := hrel
      by_cases hjk : j < g.length
      · obtain ⟨ad, nm, k', a', b', c', d', t', ks', A', cp', rfl, hab, hej, hnm, hE, ⟨e0, e1, e2, e3, e4, e5, e6, e7⟩⟩ := (HG.out.on hwr).rule hjk
        have hwz := hwr.size
        have hmem := List.mem_of_getElem? hej
        obtain ⟨hnb0, hrt0⟩ := HOK.out.1 _ hmem
        have hnb : nameB nm.data.toList = true := hnb0
        have hrt : Rtx (.mk k' a' b' c' d' t' ks') := hrt0
        have hck0 : checkE (.mk k' a' b' c' d' t' ks') = 0 := HOK.out.2.2.2 _ hmem
        clear hnb0 hrt0
        have hnl := name_lenX hnb
        have hns : nm.size <= 8 := by rw [<- size_list]; exact hnl
        have htl := tx_len _ hrt
        have hnd := nodes_leX hck0
        have hT1 : (txE (.mk k' a' b' c' d' t' ks')).length <= 180000 := by omega
        have hpr := fun W (hW : Below wr.heap.size wr W) => print_any (.mk k' a' b' c' d' t' ks') (HW.out _ hmem) k' a' b' c' d' t' ks' A' cp' W rfl ((hE.on (hW.mono hwz)).keep (Nat.le_trans hwz hW.size) fun _ _ => rfl) (HTB.out.below (hwr.trans (hW.mono hwz)) hpos)
        unfold PrQ prT at hpr
        rw [if_pos hck0, hck0] at hpr
        have HPR := Lib.hid hpr
        have HEJ := Lib.hid (takeG hej)
        have HTS : Hid ((⟨(txE (.mk k' a' b' c' d' t' ks')).toArray⟩ : ByteArray).size = (txE (.mk k' a' b' c' d' t' ks')).length) := sz_arr _
        have HTT := Lib.hid (show txE (.mk k' a' b' c' d' t' ks') = txE (.mk k' a' b' c' d' t' ks') from rfl)
        generalize hTe : txE (.mk k' a' b' c' d' t' ks') = T at HPR hT1 HTS
        have HTE := Lib.hid hTe.symm
        clear hE hej hpr hnb hrt hck0 hnl htl hnd hTe hmem HTT
        have hbr := (Below.refl wr.heap.size wr).alloc (Nat.le_refl _) (.cells #[.string nm, .int .i64 k', .int .u64 a', .int .u64 b', .int .u64 c', .int .u64 d', .string t', .slice A' ks'.length cp'] 71)
        have hxr : Blk (wr.alloc (.cells #[.string nm, .int .i64 k', .int .u64 a', .int .u64 b', .int .u64 c', .int .u64 d', .string t', .slice A' ks'.length cp'] 71)) wr.heap.size 71 #[.string nm, .int .i64 k', .int .u64 a', .int .u64 b', .int .u64 c', .int .u64 d', .string t', .slice A' ks'.length cp'] := blk_at rfl
        go_upto_region 8 with fail
        generalize (wr.alloc (.cells #[.string nm, .int .i64 k', .int .u64 a', .int .u64 b', .int .u64 c', .int .u64 d', .string t', .slice A' ks'.length cp'] 71)) = wn at hbr hxr ⊢
        generalize hrb : wr.heap.size = rb at hxr ⊢
        have x0 : wn.cell? ⟨rb, 0, none⟩ = some (.string nm) := hxr.cell 0; have x1 : wn.cell? ⟨rb, 1, none⟩ = some (.int .i64 k') := hxr.cell 1; have x2 : wn.cell? ⟨rb, 2, none⟩ = some (.int .u64 a') := hxr.cell 2; have x3 : wn.cell? ⟨rb, 3, none⟩ = some (.int .u64 b') := hxr.cell 3; have x4 : wn.cell? ⟨rb, 4, none⟩ = some (.int .u64 c') := hxr.cell 4; have x5 : wn.cell? ⟨rb, 5, none⟩ = some (.int .u64 d') := hxr.cell 5; have x6 : wn.cell? ⟨rb, 6, none⟩ = some (.string t') := hxr.cell 6; have x7 : wn.cell? ⟨rb, 7, none⟩ = some (.slice A' ks'.length cp') := hxr.cell 7
        rw [hrb] at hwz
        have hbr2 := hbr
        rw [hrb] at hbr2
        clear e0 e1 e2 e3 e4 e5 e6 e7
        go_wp2_with fail
        refine (HPR.out _ hbr).mono ?_
        rintro r w2 ⟨rfl, hb2⟩
        have hxr2 := hxr.below hb2 hxr.lt
        have hw2 : Below w.heap.size w w2 := hwr.trans (hbr.trans (hb2.mono hbr.size) |>.mono (by rw [hrb]; exact hwz))
        have x0' := hxr2.cell 0
        clear x0 x1 x2 x3 x4 x5 x6 x7 hxr hb2 hbr hbr2 hrb HPR
        have hts : (⟨T.toArray⟩ : ByteArray).size <= 180000 := by rw [HTS.out]; exact hT1
        have HCT := Lib.hid (fun (X : List UInt8) (hX : O.data.toList = X) => cat_rule O nm T (.mk k' a' b' c' d' t' ks') HTE.out X hX)
        generalize (⟨T.toArray⟩ : ByteArray) = S at HCT hts ⊢
        clear HTS HTE hT1
        have hj10 : j <= 10 := by omega
        have n1 : ¬ 9223372036854775807 < nm.size + 4 := by omega
        have n2 : ¬ 9223372036854775807 < nm.size + 4 + S.size := by omega
        have n3 : ¬ 9223372036854775807 < nm.size + 4 + S.size + 1 := by omega
        have n4 : ¬ 9223372036854775807 < O.size + (nm.size + 4 + S.size + 1) := by omega
        go_wp2
        go_roundw
        case rel =>
          refine ⟨j + 1, _, by omega, by go_num, rfl, ?_, ?_, hw2⟩
          · show _ = _
            rw [HEJ.out]
            exact HCT.out _ HO.out
          · have h4 : (⟨#[32, 60, 45, 32]⟩ : ByteArray).size = 4 := rfl
            have h5 : (⟨#[10]⟩ : ByteArray).size = 1 := rfl
            simp only [ByteArray.size_append, h4, h5]
            omega
        case measure => simp [intOf]; omega
      · obtain rfl : j = g.length := by omega
        have hOe : O = ⟨(txG g).toArray⟩ := by
          have := HO.out
          rw [List.take_length] at this
          exact list_back this
        have HOE := Lib.hid hOe
        clear hOe HO
        go_wp2
        rw [HOE.out]
        exact HQ.out _ hwr
  · have HQ : Hid (∀ w', Below w.heap.size w w' -> PrGQ g w (.returned (.tuple #[.string ⟨#[]⟩, .int .i64 (checkG g)])) w') := fun w' hb => ⟨by unfold prG; rw [if_neg h0], hb⟩
    generalize PrGQ g w = Q at HQ ⊢
    generalize checkG g = x at HCK HQ h0
    have hx0 : (x != 0) = true := by rw [bne_iff_ne]; exact h0
    clear h h0 hw hbx
    go_enter Tryd.func17, Tryd.ntmps17
    go_wp2_with fail
    refine (HCK.out _ hb0).mono ?_
    rintro r w1 ⟨rfl, hb1'⟩
    have hb1 := hb0.trans (hb1'.mono hb0.size)
    go_wp2
    exact HQ.out _ hb1
structure Fa where
  (e a f : Bool)
deriving DecidableEq
def Fa.vals (x : Fa) : List Value := [.bool x.e, .bool x.a, .bool x.f]
def starF (x : Fa) : Fa := ⟨x.f, x.a, false⟩
def thenF (a b : Fa) : Fa := ⟨a.e && b.e, a.a && (b.e || b.a) || a.e && b.a, a.f || (a.e || a.a) && b.f⟩
def orF (a b : Fa) : Fa := ⟨a.e || a.f && b.e, a.a || a.f && b.a, a.f && b.f⟩
theorem star_any (e a f : Bool) (w : World) : Calls Tryd.prog 109 #[.agg #[.bool e, .bool a, .bool f]] w fun e' w' => e' = .returned (.agg #[.bool f, .bool a, .bool false]) /\ Below w.heap.size w w' := by
  go_enter Tryd.func109, Tryd.ntmps109
  go_wp2
  exact bodyPost_ret (v := .agg #[.bool f, .bool a, .bool false]) (by simp [results, Tryd.results109, go_sem]) rfl ⟨rfl, bl⟩
theorem then_any (e a f e2 a2 f2 : Bool) (w : World) : Calls Tryd.prog 107 #[.agg #[.bool e, .bool a, .bool f], .agg #[.bool e2, .bool a2, .bool f2]] w fun e' w' =>
    e' = .returned (.agg (thenF ⟨e, a, f⟩ ⟨e2, a2, f2⟩).vals.toArray) /\ Below w.heap.size w w' := by
  go_enter Tryd.func107, Tryd.ntmps107
  go_wp2
  all_goals (exact bodyPost_ret (by simp [results, Tryd.results107, go_sem]; rfl) rfl ⟨by simp [thenF, Fa.vals, *], bl⟩)
theorem or_any (e a f e2 a2 f2 : Bool) (w : World) : Calls Tryd.prog 108 #[.agg #[.bool e, .bool a, .bool f], .agg #[.bool e2, .bool a2, .bool f2]] w fun e' w' =>
    e' = .returned (.agg (orF ⟨e, a, f⟩ ⟨e2, a2, f2⟩).vals.toArray) /\ Below w.heap.size w w' := by
  go_enter Tryd.func108, Tryd.ntmps108
  go_wp2
  all_goals (exact bodyPost_ret (by simp [results, Tryd.results108, go_sem]; rfl) rfl ⟨by simp [orF, Fa.vals, *], bl⟩)
end Go.Proofs.YtndhbdbfjkmloaaDoor
