/- TopTree's closures: each node is what its rule takes of its bytes alone. pack.Run: what it answers. Events are built to trees: plain. What event.Build holds in memory: the stack of what is open. -/
import Derived.Test.YtndhbdbfjkmloaaJTopTree0
import Derived.Test.YtndhbdbfjkmloaaJTopTree3
import Derived.Test.YtndhbdbfjkmloaaJTopTree11
import Derived.Laws.EntriesVeiled
import Derived.Laws.OwnMore
namespace Go.Proofs.Ytndhbdbfjkmloaa
open Go.RowKit Go.Maps

def trToA : Tr → Int
  | .mk _ _ u _ => u
theorem at_suf {g : List Rl} {s s' : ByteArray} {i p q : Nat} {r : Rl} {v : Option Nat} {x : Int} (h : AtR g i s' 0 v x) (hd : s'.data.toList = s.data.toList.drop p) (hl : lookG g s = 0) (hr : g[i]? = some r) (hp : p ≤ s.size) (hs : Sem g s.data.toList r.2 p (some q)) : v = some (q - p) ∧ x = 0 := by
  have h60 := (look_zero hl).2
  have l1 : s.data.toList.length = s.size := size_list s
  have l2 : s'.size = s.size - p := by rw [← size_list s', hd, List.length_drop, l1]
  have hl' : lookG g s' = 0 := (look_same (by omega) h60).trans hl
  have l3 : (s.data.toList.take p).length = p := by rw [List.length_take]; omega
  obtain ⟨n, hn⟩ := hs
  have hpst := ev_past (g := g) (s.data.toList.take p) s'.data.toList n (.ex r.2) 0
  rw [hd, List.take_append_drop, l3, Nat.add_zero, show evJ g s.data.toList n (.ex r.2) p = some (some q) from hn] at hpst
  obtain ⟨o, ho, hq⟩ := Option.map_eq_some_iff.1 hpst.symm
  obtain ⟨q', rfl, hq'⟩ := Option.map_eq_some_iff.1 hq
  rcases h with ⟨h1, _⟩ | ⟨_, h1, _⟩ | ⟨_, j, u, r', o, h1, h2, h3, h4, h5, h6, h7⟩
  · exact absurd hl' h1
  · have := getElem?_lt hr
    omega
  · have e1 : j = i := by omega
    have e2 : u = 0 := by omega
    subst e1 e2
    rw [hr] at h4
    injection h4 with h4
    subst h4
    obtain ⟨m, hm⟩ := h5
    rw [hd] at hm
    have := ev_eq hm ho
    subst this
    exact ⟨by rw [h6]; simp; omega, h7⟩
theorem slice_fromA (s : ByteArray) (i : Nat) (h : i ≤ s.size) (w : World) :
    (Instr.slice 9 (.string s) (some (.int .i64 (i : Int))) none none).run Try.prog w = .ok (.string (s.extract i s.size)) w := by
  have hu := Try.underlying9
  simp [Instr.slice, run_underlying hu, Instr.sliceBounds, go_sem]
  omega
theorem extract_dropA (s : ByteArray) (i : Nat) : (s.extract i s.size).data.toList = s.data.toList.drop i := by
  have h : s.data.toList.length = s.size := size_list s
  simp only [ByteArray.data_extract, Array.toList_extract, List.extract_eq_take_drop]
  rw [List.take_of_length_le (by rw [List.length_drop]; omega)]

/-- what the closure of TopTree captured -/
structure AllC (w : World) (s : ByteArray) (n : Nat) (A : Option Addr) (cp bg bs bv : Nat) : Prop where
  g : Blk w bg 35 #[.slice A n cp]
  s : Blk w bs 9 #[.string s]
  v : Blk w bv 46 #[.func (.func 12) #[] #[.pointer (some ⟨bg, 0, none⟩), .pointer (some ⟨bs, 0, none⟩), .pointer (some ⟨bv, 0, none⟩)]]
theorem AllC.below {w w' : World} {s : ByteArray} {n : Nat} {A : Option Addr} {cp bg bs bv : Nat} (h : AllC w s n A cp bg bs bv) (hb : Below w.heap.size w w') : AllC w' s n A cp bg bs bv :=
  ⟨h.g.below hb h.g.lt, h.s.below hb h.s.lt, h.v.below hb h.v.lt⟩
/-- the closure at a tree -/
def AllAt (g : List Rl) (s : ByteArray) (t : Tr) : Prop := ∀ (cs : List Value) (w : World) (S : Nat → Prop) (A : Option Addr) (cp : Nat) (row : Nat → List Value) (bg bs bv : Nat),
  GrIs w w.heap.size g A cp row → AllC w s g.length A cp bg bs bv → TrIs w S t cs → (∀ b, S b → b < w.heap.size) → NestT g s.data.toList t → trToA t ≤ s.size →
  Calls Try.prog 12 #[.agg cs.toArray, .pointer (some ⟨bg, 0, none⟩), .pointer (some ⟨bs, 0, none⟩), .pointer (some ⟨bv, 0, none⟩)] w fun e w' => e = .returned (.bool true) ∧ Below w.heap.size w w'

set_option maxRecDepth 100000 in
set_option maxHeartbeats 4000000 in
theorem kidT_any {s : ByteArray} {n cp bg bs bv xb : Nat} {A : Option Addr} {w : World} {i p q m kcp : Nat} {KA : Option Addr} {r' : Int} {f' u' n' c' : Nat} {A' : Option Addr} (hA : AllC w s n A cp bg bs bv) (hx : Blk w xb 38 #[.int .i64 i, .int .i64 p, .int .i64 q, .slice KA m kcp])
    (hk : ∀ W, Below w.heap.size w W → Calls Try.prog 12 #[.agg #[.int .i64 r', .int .i64 f', .int .i64 u', .slice A' n' c'], .pointer (some ⟨bg, 0, none⟩), .pointer (some ⟨bs, 0, none⟩), .pointer (some ⟨bv, 0, none⟩)] W fun e w' => e = .returned (.bool true) ∧ Below W.heap.size W w')
    (h1 : p ≤ f') (h2 : f' ≤ u') (h3 : u' ≤ q) :
    Calls Try.prog 15 #[.agg #[.int .i64 r', .int .i64 f', .int .i64 u', .slice A' n' c'], .pointer (some ⟨xb, 0, none⟩), .pointer (some ⟨bv, 0, none⟩)] w fun e w' => e = .returned (.bool false) ∧ Below w.heap.size w w' := by
  have HK := Lib.hid hk
  have hn1 : ¬ ((f' : Int) < (p : Int)) := by omega
  have hn2 : ¬ ((q : Int) < (u' : Int)) := by omega
  have hn3 : ¬ ((u' : Int) < (f' : Int)) := by omega
  have hxl := hx.lt
  have hvl := hA.v.lt
  have x1 : w.cell? ⟨xb, 1, none⟩ = some (.int .i64 p) := hx.cell 1
  have x2 : w.cell? ⟨xb, 2, none⟩ = some (.int .i64 q) := hx.cell 2
  have v0 : w.cell? ⟨bv, 0, none⟩ = some (.func (.func 12) #[] #[.pointer (some ⟨bg, 0, none⟩), .pointer (some ⟨bs, 0, none⟩), .pointer (some ⟨bv, 0, none⟩)]) := hA.v.cell 0
  clear hk hA hx h1 h2 h3
  go_enter Try.func15, Try.ntmps15
  go_wp2_with fail
  refine (HK.out _ (by repeat (first | exact Below.refl _ _ | assumption | refine Below.drew ?_ | refine below_drewN ?_ _ | refine Below.alloc ?_ (by first | omega | (simp; omega) | simp) _ | refine Below.setCell ?_ (by first | omega | (simp; omega) | simp) _))).mono ?_
  rintro e w2 ⟨rfl, hb2⟩
  have hw2 : Below w.heap.size w w2 := Below.trans (by repeat (first | exact Below.refl _ _ | assumption | refine Below.drew ?_ | refine below_drewN ?_ _ | refine Below.alloc ?_ (by first | omega | (simp; omega) | simp) _ | refine Below.setCell ?_ (by first | omega | (simp; omega) | simp) _)) (hb2.mono (by first | omega | (simp; omega) | simp)); have hzw2 := hw2.size; clear hb2
  go_wp2
  go_ret
  exact ⟨rfl, hw2⟩

set_option maxRecDepth 100000 in
set_option maxHeartbeats 4000000 in
theorem idxT_any {g : List Rl} {s : ByteArray} {A : Option Addr} {cp : Nat} {row : Nat → List Value} {w : World} {S : Nat → Prop} {ks : List Tr} {KA : Option Addr} {kcp bg bs bv xb i p q : Nat} (ih : ∀ t ∈ ks, AllAt g s t) (hG : GrIs w w.heap.size g A cp row) (hA : AllC w s g.length A cp bg bs bv)
    (hx : Blk w xb 38 #[.int .i64 i, .int .i64 p, .int .i64 q, .slice KA ks.length kcp]) (hK : Kids w S ks KA ks.length kcp) (hS : ∀ b, S b → b < w.heap.size) (hL : NestL g s.data.toList p q ks) (hq : q ≤ s.size) :
    Calls Try.prog 26 #[.slice KA ks.length kcp, .func (.func 15) #[] #[.pointer (some ⟨xb, 0, none⟩), .pointer (some ⟨bv, 0, none⟩)]] w fun e w' => e = .returned (.int .i64 (-1)) ∧ Below w.heap.size w w' := by
  have hm8 : ks.length ≤ 9223372036854775807 := by have := hK.2.1; have := hK.2.2.1; unfold maxLen at this; omega
  have hkc := hK.2.1
  have HG := Lib.hid hG
  have HA := Lib.hid hA
  have HX := Lib.hid hx
  have HK := Lib.hid hK
  have HL := Lib.hid hL
  have HS := Lib.hid hS
  have IH := Lib.hid ih
  clear hG hA hx hK hL hS ih
  go_enter Try.func26, Try.ntmps26
  go_wp2
  go_loopw [5, 8] (fun _ iv wr => ∃ j a : Nat, j ≤ ks.length ∧ p ≤ a ∧ iv = .int .i64 j ∧ Hid (NestL g s.data.toList a q (ks.drop j)) ∧ Below w.heap.size w wr) (fun _ iv _ => ks.length - (intOf iv).toNat)
  case atStart => exact ⟨0, p, by omega, Nat.le_refl _, rfl, HL, Below.refl _ _⟩
  case round =>
    obtain ⟨j, a, hj, hpa, rfl, HLj, hwr⟩ := hrel
    have hwz := hwr.size
    by_cases hjn : j < ks.length
    · have hKr := HK.out.keep (w' := wr) (S' := S) (fun _ h => h) fun q hq => hwr.cell (HS.out _ hq)
      obtain ⟨ad, r', f', u', ks', A', cp', rfl, hSa, hej, hT', y0, y1, y2, y3⟩ := hKr.at_ hjn
      have hLj := HLj.out
      rw [drop_of hej] at hLj
      cases hLj with
      | cons _ _ i' p' q' _ _ h1 h2 h3 h4 =>
      have h5 := h4.le
      have hTw := (HK.out.at_ hjn)
      have hall := fun (W : World) (hW : Below wr.heap.size wr W) => IH.out (.mk i' p' q' ks') (List.mem_of_getElem? hej) _ W S A cp row bg bs bv ((HG.out.on (hwr.trans (hW.mono hwz))).more (by have := hW.size; omega)) (HA.out.below (hwr.trans (hW.mono hwz))) (hT'.keep (fun _ h => h) fun q hq => hW.cell (by have := HS.out _ hq; omega)) (fun b hb => by have := HS.out b hb; have := hW.size; omega) h3 (by show (q' : Int) ≤ s.size; omega)
      have hcall := kidT_any (HA.out.below hwr) (HX.out.below hwr HX.out.lt) hall (by omega) h2 h5
      have HC := Lib.hid hcall
      have HLN := Lib.hid h4
      have hab := HS.out _ hSa
      clear hall hcall h3 h4 hT' hKr hSa hej HLj hTw
      go_wp2_with fail
      refine HC.out.mono ?_
      rintro e w2 ⟨rfl, hb2⟩
      have hw2 : Below w.heap.size w w2 := hwr.trans (hb2.mono hwz)
      clear hb2 y0 y1 y2 y3
      go_wp2
      go_roundw
      case rel => exact ⟨j + 1, q', by omega, by omega, by go_num, HLN, hw2⟩
      case measure => simp [intOf]; omega
    · obtain rfl : j = ks.length := by omega
      go_wp2
      go_ret
      exact ⟨rfl, hwr⟩
set_option maxRecDepth 100000 in
theorem conT_any {g : List Rl} {s : ByteArray} {A : Option Addr} {cp : Nat} {row : Nat → List Value} {w : World} {S : Nat → Prop} {ks : List Tr} {KA : Option Addr} {kcp bg bs bv xb i p q : Nat} (ih : ∀ t ∈ ks, AllAt g s t) (hG : GrIs w w.heap.size g A cp row) (hA : AllC w s g.length A cp bg bs bv)
    (hx : Blk w xb 38 #[.int .i64 i, .int .i64 p, .int .i64 q, .slice KA ks.length kcp]) (hK : Kids w S ks KA ks.length kcp) (hS : ∀ b, S b → b < w.heap.size) (hL : NestL g s.data.toList p q ks) (hq : q ≤ s.size) :
    Calls Try.prog 14 #[.slice KA ks.length kcp, .func (.func 15) #[] #[.pointer (some ⟨xb, 0, none⟩), .pointer (some ⟨bv, 0, none⟩)]] w fun e w' => e = .returned (.bool false) ∧ Below w.heap.size w w' := by
  have HI := Lib.hid (idxT_any ih hG hA hx hK hS hL hq)
  clear ih hG hA hx hK hS hL
  go_enter Try.func14, Try.ntmps14
  go_wp2_with fail
  refine HI.out.mono ?_
  rintro e w1 ⟨rfl, hb1⟩
  go_wp2
  go_ret
  exact ⟨rfl, hb1⟩

set_option maxRecDepth 100000 in
set_option maxHeartbeats 8000000 in
theorem all_any {g : List Rl} {s : ByteArray} (hl0 : lookG g s = 0) (hwf : ∀ r ∈ g, WfE r.2) (t : Tr) : AllAt g s t := by
  refine Tr.ind (P := AllAt g s) ?_ t
  intro r f u ks ih cs w S A cp row bg bs bv hG hA hT hS hN hu
  have hmf : ∀ (fn : Fn) (first cap : Array Value) (w : World), (Instr.makeFunc fn first cap).run Try.prog w = .ok (.func fn first cap) w := fun _ _ _ _ => rfl
  obtain ⟨KA, kcp, rfl, hK⟩ := hT.kids
  cases hN with
  | mk i p q rl n _ hr hev hL =>
  have hu' : q ≤ s.size := by have : (q : Int) ≤ s.size := hu; omega
  have hpq := hL.le
  have hps : p ≤ s.size := by omega
  have hsl := fun W => slice_fromA s p hps W
  obtain ⟨s', hs'⟩ : ∃ s', s.extract p s.size = s' := ⟨_, rfl⟩
  rw [hs'] at hsl
  have hd : s'.data.toList = s.data.toList.drop p := by rw [← hs']; exact extract_dropA s p
  have HAT := Lib.hid (fun W (hW : Below w.heap.size w W) => at_any ((hG.on hW).more hW.size) hwf i s' 0)
  have HAO := Lib.hid (fun v x (h : AtR g i s' 0 v x) => at_suf h hd hl0 hr hps ⟨n, hev⟩)
  have HCT := Lib.hid (fun W (hW : Below w.heap.size w W) (xb : Nat) (hx : Blk W xb 38 #[.int .i64 i, .int .i64 p, .int .i64 q, .slice KA ks.length kcp]) => conT_any (S := S) ih ((hG.on hW).more hW.size) (hA.below hW) hx (hK.keep (fun _ h => h) fun a ha => hW.cell (hS _ ha)) (fun b hb => by have := hS b hb; have := hW.size; omega) hL hu')
  obtain ⟨N, hqN⟩ : ∃ N, q - p = N := ⟨_, rfl⟩
  rw [hqN] at HAO
  have h60 := (look_zero hl0).2
  have hws : IntKind.i64.wrap ((q : Int) - (p : Int)) = (N : Int) := by rw [show (q : Int) - (p : Int) = (N : Int) by omega]; exact IntWalk.i64_in _ (by omega)
  have HQN := Lib.hid hqN
  have hA0 := hA
  clear hG hT hS hu hK hL ih hr hev hl0 hd hs' hA hwf hqN
  go_enter Try.func12, Try.ntmps12
  go_upto_region 1 with fail
  have hxb : Blk (w.alloc (.cells #[.int .i64 i, .int .i64 p, .int .i64 q, .slice KA ks.length kcp] 38)) w.heap.size 38 #[.int .i64 i, .int .i64 p, .int .i64 q, .slice KA ks.length kcp] := blk_at rfl
  have hw0 : Below w.heap.size w (w.alloc (.cells #[.int .i64 i, .int .i64 p, .int .i64 q, .slice KA ks.length kcp] 38)) := (by repeat (first | exact Below.refl _ _ | assumption | refine Below.drew ?_ | refine below_drewN ?_ _ | refine Below.alloc ?_ (by first | omega | (simp; omega) | simp) _ | refine Below.setCell ?_ (by first | omega | (simp; omega) | simp) _))
  generalize (w.alloc (.cells #[.int .i64 i, .int .i64 p, .int .i64 q, .slice KA ks.length kcp] 38)) = w0 at hxb hw0 ⊢
  replace hA0 := hA0.below hw0
  refine wp_region_l (Below w0.heap.size w0) (fun i => i == 8 || i == 9 || i == 10 || i == 12 || i == 13) (by kernel_rfl) ?_
  have hC : Below w0.heap.size w0 w0.drew := (Below.refl _ _).drew
  generalize w0.drew = wd at hC ⊢
  apply L.rdt (i := 0) rfl (by kernel_rfl) hC rfl
  · intro W hW
    have q0 := (hA0.g.below hW hA0.g.lt).cell 0
    unfold readW
    go_simp
    first | rfl | exact ⟨rfl, rfl⟩
  first | simp only [Act.put, List.setIfInBounds_toArray, List.set_cons_succ, List.set_cons_zero] | skip
  apply L.rdt (i := 1) rfl (by kernel_rfl) hC rfl
  · intro W hW
    skip
    unfold readW
    go_simp
    first | rfl | exact ⟨rfl, rfl⟩
  first | simp only [Act.put, List.setIfInBounds_toArray, List.set_cons_succ, List.set_cons_zero] | skip
  apply L.rdt (i := 2) rfl (by kernel_rfl) hC rfl
  · intro W hW
    have q0 := (hxb.below hW hxb.lt).cell 0
    unfold readW
    go_simp
    first | rfl | exact ⟨rfl, rfl⟩
  first | simp only [Act.put, List.setIfInBounds_toArray, List.set_cons_succ, List.set_cons_zero] | skip
  apply L.rdt (i := 3) rfl (by kernel_rfl) hC rfl
  · intro W hW
    have q0 := (hA0.s.below hW hA0.s.lt).cell 0
    unfold readW
    go_simp
    first | rfl | exact ⟨rfl, rfl⟩
  first | simp only [Act.put, List.setIfInBounds_toArray, List.set_cons_succ, List.set_cons_zero] | skip
  apply L.rdt (i := 4) rfl (by kernel_rfl) hC rfl
  · intro W hW
    skip
    unfold readW
    go_simp
    first | rfl | exact ⟨rfl, rfl⟩
  first | simp only [Act.put, List.setIfInBounds_toArray, List.set_cons_succ, List.set_cons_zero] | skip
  apply L.rdt (i := 5) rfl (by kernel_rfl) hC rfl
  · intro W hW
    have q0 := (hxb.below hW hxb.lt).cell 1
    unfold readW
    go_simp
    first | rfl | exact ⟨rfl, rfl⟩
  first | simp only [Act.put, List.setIfInBounds_toArray, List.set_cons_succ, List.set_cons_zero] | skip
  apply L.rdt (i := 6) rfl (by kernel_rfl) hC rfl
  · intro W hW
    skip
    unfold readW
    go_simp
    first | rfl | exact ⟨rfl, rfl⟩
  first | simp only [Act.put, List.setIfInBounds_toArray, List.set_cons_succ, List.set_cons_zero] | skip
  apply L.two (i := 7) (k := 11) rfl rfl (by kernel_rfl) rfl rfl
  · unfold stepT
    go_simp
    go_at_call 13
    refine (HAT.out wd (hw0.trans (hC.mono hw0.size))).mono ?_
    rintro e wn ⟨v, x, hat, rfl, hbn⟩
    obtain ⟨rfl, rfl⟩ := HAO.out _ _ hat
    have hov : outV (some N) = .agg #[.bool true, .int .i64 N] := rfl
    rw [hov]
    replace hC := hC.trans (hbn.mono hC.size)
    clear hat hbn hov
    refine ⟨_, rfl, hC, ?_⟩
    first | simp only [Act.put, List.setIfInBounds_toArray, List.set_cons_succ, List.set_cons_zero] | skip
    apply L.rdl (i := 8) rfl (by kernel_rfl) rfl
    · intro W
      unfold readW
      go_simp
      first | rfl | exact ⟨rfl, rfl⟩
    first | simp only [Act.put, List.setIfInBounds_toArray, List.set_cons_succ, List.set_cons_zero] | skip
    apply L.rdl (i := 9) rfl (by kernel_rfl) rfl
    · intro W
      unfold readW
      go_simp
      first | rfl | exact ⟨rfl, rfl⟩
    first | simp only [Act.put, List.setIfInBounds_toArray, List.set_cons_succ, List.set_cons_zero] | skip
    apply L.rdl (i := 10) rfl (by kernel_rfl) rfl
    · intro W
      unfold readW
      go_simp
      first | rfl | exact ⟨rfl, rfl⟩
    first | simp only [Act.put, List.setIfInBounds_toArray, List.set_cons_succ, List.set_cons_zero] | skip
    apply L.one (i := 11) rfl (by kernel_rfl) rfl
    unfold stepT
    go_simp
    have hq0 := hC.size
    replace hC := hC.alloc hC.size (.cells #[.bool false, .int .i64 0] 48)
    have hy : Blk (wn.alloc (.cells #[.bool false, .int .i64 0] 48)) wn.heap.size 48 #[.bool false, .int .i64 0] := Blk.new wn _ _
    generalize (wn.alloc (.cells #[.bool false, .int .i64 0] 48)) = wb at hC hy ⊢
    generalize wn.heap.size = nb at hy hq0 ⊢
    refine ⟨hC, ?_⟩
    first | simp only [Act.put, List.setIfInBounds_toArray, List.set_cons_succ, List.set_cons_zero] | skip
    have y0 : wb.cell? ⟨nb, 0, none⟩ = some (.bool false) := hy.cell 0
    have y1 : wb.cell? ⟨nb, 1, none⟩ = some (.int .i64 0) := hy.cell 1
    have f0 := hy.frozen 0
    have f1 := hy.frozen 1
    have g1 : Blk ((wb.setCell ⟨nb, 0, none⟩ (.bool true)).setCell ⟨nb, 1, none⟩ (.int .i64 N)) nb 48 #[.bool true, .int .i64 N] := (hy.set_ 0 _).set_ 1 _
    have g2 : Below w.heap.size w ((wb.setCell ⟨nb, 0, none⟩ (.bool true)).setCell ⟨nb, 1, none⟩ (.int .i64 N)) := ((hw0.trans (hC.mono hw0.size)).setCell (by have := hw0.size; simp; omega) _).setCell (by have := hw0.size; simp; omega) _
    have hxl := hxb.lt
    have g3 : Blk ((wb.setCell ⟨nb, 0, none⟩ (.bool true)).setCell ⟨nb, 1, none⟩ (.int .i64 N)) w.heap.size 38 #[.int .i64 i, .int .i64 p, .int .i64 q, .slice KA ks.length kcp] := ((hxb.below hC hxl).far (by simp; omega) _).far (by simp; omega) _
    clear hC
    apply L.one (i := 12) rfl (by kernel_rfl) rfl
    unfold stepT
    go_simp
    generalize ((wb.setCell ⟨nb, 0, none⟩ (.bool true)).setCell ⟨nb, 1, none⟩ (.int .i64 N)) = w9 at g1 g2 g3 ⊢
    clear y0 y1 f0 f1 hy
    apply L.rdl (i := 13) rfl (by kernel_rfl) rfl
    · intro W
      unfold readW
      go_simp
      first | rfl | exact ⟨rfl, rfl⟩
    first | simp only [Act.put, List.setIfInBounds_toArray, List.set_cons_succ, List.set_cons_zero] | skip
    refine L.done (by kernel_rfl) ?_
    have o0 : w9.cell? ⟨nb, 0, none⟩ = some (.bool true) := g1.cell 0
    have o1 : w9.cell? ⟨nb, 1, none⟩ = some (.int .i64 N) := g1.cell 1
    have t1 : w9.cell? ⟨w.heap.size, 1, none⟩ = some (.int .i64 p) := g3.cell 1
    have t2 : w9.cell? ⟨w.heap.size, 2, none⟩ = some (.int .i64 q) := g3.cell 2
    have t3 : w9.cell? ⟨w.heap.size, 3, none⟩ = some (.slice KA ks.length kcp) := g3.cell 3
    go_wp2_with fail
    refine (HCT.out w9 g2 _ g3).mono ?_
    rintro e w10 ⟨rfl, hb10⟩
    have hw10 := g2.trans (hb10.mono g2.size)
    go_wp2
    go_ret
    exact ⟨rfl, hw10⟩
  · unfold stepT
    go_simp
    have hq0 := hC.size
    replace hC := hC.alloc hC.size (.cells #[.bool false, .int .i64 0] 48)
    have hy : Blk (wd.alloc (.cells #[.bool false, .int .i64 0] 48)) wd.heap.size 48 #[.bool false, .int .i64 0] := Blk.new wd _ _
    have hlt : wd.heap.size < (wd.alloc (.cells #[.bool false, .int .i64 0] 48)).heap.size := by simp
    generalize (wd.alloc (.cells #[.bool false, .int .i64 0] 48)) = wa at hC hy hlt ⊢
    generalize wd.heap.size = nb at hy hlt hq0 ⊢
    refine ⟨hC, ?_⟩
    first | simp only [Act.put, List.setIfInBounds_toArray, List.set_cons_succ, List.set_cons_zero] | skip
    apply L.one (i := 7) rfl (by kernel_rfl) rfl
    unfold stepT
    go_simp
    go_at_call 13
    refine (HAT.out wa (hw0.trans (hC.mono hw0.size))).mono ?_
    rintro e wn ⟨v, x, hat, rfl, hbn⟩
    obtain ⟨rfl, rfl⟩ := HAO.out _ _ hat
    have hov : outV (some N) = .agg #[.bool true, .int .i64 N] := rfl
    rw [hov]
    replace hC := hC.trans (hbn.mono hC.size)
    replace hy := hy.below hbn hlt
    clear hat hbn hov hlt
    refine ⟨_, rfl, hC, ?_⟩
    first | simp only [Act.put, List.setIfInBounds_toArray, List.set_cons_succ, List.set_cons_zero] | skip
    apply L.rdl (i := 8) rfl (by kernel_rfl) rfl
    · intro W
      unfold readW
      go_simp
      first | rfl | exact ⟨rfl, rfl⟩
    first | simp only [Act.put, List.setIfInBounds_toArray, List.set_cons_succ, List.set_cons_zero] | skip
    apply L.rdl (i := 9) rfl (by kernel_rfl) rfl
    · intro W
      unfold readW
      go_simp
      first | rfl | exact ⟨rfl, rfl⟩
    first | simp only [Act.put, List.setIfInBounds_toArray, List.set_cons_succ, List.set_cons_zero] | skip
    apply L.rdl (i := 10) rfl (by kernel_rfl) rfl
    · intro W
      unfold readW
      go_simp
      first | rfl | exact ⟨rfl, rfl⟩
    first | simp only [Act.put, List.setIfInBounds_toArray, List.set_cons_succ, List.set_cons_zero] | skip
    rename World => wb
    have y0 : wb.cell? ⟨nb, 0, none⟩ = some (.bool false) := hy.cell 0
    have y1 : wb.cell? ⟨nb, 1, none⟩ = some (.int .i64 0) := hy.cell 1
    have f0 := hy.frozen 0
    have f1 := hy.frozen 1
    have g1 : Blk ((wb.setCell ⟨nb, 0, none⟩ (.bool true)).setCell ⟨nb, 1, none⟩ (.int .i64 N)) nb 48 #[.bool true, .int .i64 N] := (hy.set_ 0 _).set_ 1 _
    have g2 : Below w.heap.size w ((wb.setCell ⟨nb, 0, none⟩ (.bool true)).setCell ⟨nb, 1, none⟩ (.int .i64 N)) := ((hw0.trans (hC.mono hw0.size)).setCell (by have := hw0.size; simp; omega) _).setCell (by have := hw0.size; simp; omega) _
    have hxl := hxb.lt
    have g3 : Blk ((wb.setCell ⟨nb, 0, none⟩ (.bool true)).setCell ⟨nb, 1, none⟩ (.int .i64 N)) w.heap.size 38 #[.int .i64 i, .int .i64 p, .int .i64 q, .slice KA ks.length kcp] := ((hxb.below hC hxl).far (by simp; omega) _).far (by simp; omega) _
    clear hC
    apply L.one (i := 12) rfl (by kernel_rfl) rfl
    unfold stepT
    go_simp
    generalize ((wb.setCell ⟨nb, 0, none⟩ (.bool true)).setCell ⟨nb, 1, none⟩ (.int .i64 N)) = w9 at g1 g2 g3 ⊢
    clear y0 y1 f0 f1 hy
    apply L.rdl (i := 13) rfl (by kernel_rfl) rfl
    · intro W
      unfold readW
      go_simp
      first | rfl | exact ⟨rfl, rfl⟩
    first | simp only [Act.put, List.setIfInBounds_toArray, List.set_cons_succ, List.set_cons_zero] | skip
    refine L.done (by kernel_rfl) ?_
    have o0 : w9.cell? ⟨nb, 0, none⟩ = some (.bool true) := g1.cell 0
    have o1 : w9.cell? ⟨nb, 1, none⟩ = some (.int .i64 N) := g1.cell 1
    have t1 : w9.cell? ⟨w.heap.size, 1, none⟩ = some (.int .i64 p) := g3.cell 1
    have t2 : w9.cell? ⟨w.heap.size, 2, none⟩ = some (.int .i64 q) := g3.cell 2
    have t3 : w9.cell? ⟨w.heap.size, 3, none⟩ = some (.slice KA ks.length kcp) := g3.cell 3
    go_wp2_with fail
    refine (HCT.out w9 g2 _ g3).mono ?_
    rintro e w10 ⟨rfl, hb10⟩
    have hw10 := g2.trans (hb10.mono g2.size)
    go_wp2
    go_ret
    exact ⟨rfl, hw10⟩
end Go.Proofs.Ytndhbdbfjkmloaa
namespace Go.Proofs.Ytndhbdbfjkmloaa
open Go.RowKit Go.Maps

theorem ownsRow_low {w : World} {base base' n size : Nat} {e : TypeId} {v : Value} {xs : List Value} (h : w.ownsRow base e size v n xs) (hb : base' ≤ base) : w.ownsRow base' e size v n xs := by
  refine ⟨h.1, ?_⟩
  rcases h.2 with h0 | ⟨g, cap, cur, h1, h2, h3⟩
  · exact .inl h0
  · exact .inr ⟨g, cap, cur, h1, by omega, h3⟩
theorem pk_last {g : List Rl} {s : List UInt8} {m i p : Nat} {o : Option Nat} {σ1 : PS} (h : pk g s false m (.rule i) p ps0 = some (o, σ1)) : ∃ l', σ1.log = l' ++ [(i, p, o.map (· - p))] := by
  cases m with
  | zero => cases h
  | succ m =>
    simp only [pk] at h
    have h0 : recall ps0.seen (i, p) = none := rfl
    rw [h0] at h
    simp only at h
    split at h
    · cases h
    · split at h
      · cases h
      · split at h
        · cases h
        · simp only [Option.some.injEq, Prod.mk.injEq] at h
          obtain ⟨rfl, rfl⟩ := h
          exact ⟨_, rfl⟩
/-- what Run answers -/
def RunQ (g : List Rl) (s : ByteArray) (w : World) (e : Ending) (w' : World) : Prop := Below w.heap.size w w' ∧
  ((lookG g s ≠ 0 ∧ e = .returned (.tuple #[outV none, .slice none 0 0, .int .i64 (lookG g s)])) ∨
   (lookG g s = 0 ∧ ∃ (o : Option Nat) (σ1 : PS) (V : Option Addr) (cp : Nat) (l' : List (Nat × Nat × Option Nat)), (∃ m, pk g s.data.toList false m (.rule 0) 0 ps0 = some (o, σ1)) ∧ Agree g s.data.toList σ1 ∧ Tight g s.size σ1 ∧ σ1.log = l' ++ [(0, 0, o)] ∧
     e = .returned (.tuple #[outV o, .slice V σ1.log.length cp, .int .i64 0]) ∧ w'.ownsRow w.heap.size 95 4 (.slice V σ1.log.length cp) σ1.log.length (σ1.log.flatMap stepC)))

set_option maxRecDepth 100000 in
set_option maxHeartbeats 8000000 in
theorem run_any {g : List Rl} {A : Option Addr} {cp : Nat} {row : Nat → List Value} {w : World} (h : GrIs w w.heap.size g A cp row) (hwf : ∀ r ∈ g, WfE r.2) (s : ByteArray) :
    Calls Try.prog 37 #[.agg #[.slice A g.length cp], .string s] w (RunQ g s w) := by
  have hlk := fun W (hW : Below w.heap.size w W) => mlook_any ((h.on hW).more hW.size) s
  have HLK := Lib.hid hlk
  have HG := Lib.hid h
  have HWF := Lib.hid hwf
  clear hlk h hwf
  by_cases hl0 : lookG g s = 0
  · obtain ⟨W, h60⟩ := look_zero hl0
    rw [hl0] at HLK
    have HL0 := Lib.hid hl0
    have HW := Lib.hid W
    have h10 := W.right.ten
    have hpos := W.right.pos
    clear hl0 W
    obtain ⟨r, hr⟩ : ∃ r, g[0]? = some r := ⟨_, List.getElem?_eq_getElem hpos⟩
    have hsl : s.data.toList.length = s.size := size_list s
    obtain ⟨o, m, σ1, hsem, hpk, hag⟩ := rule_goes HW.out s.data.toList hr (p := 0) (by omega)
    have hnew := fun W (hW : Below w.heap.size w W) => new_any ((HG.out.on hW).more hW.size) hpos h10 (sixty_of HW.out.right) s
    have HN := Lib.hid hnew
    have HPK := Lib.hid hpk
    have HAG := Lib.hid hag
    clear hnew hpk hsem hr hag
    go_enter Try.func37, Try.ntmps37
    go_wp2_with fail
    refine (HLK.out _ (by repeat (first | exact Below.refl _ _ | assumption | refine Below.drew ?_ | refine below_drewN ?_ _ | refine Below.alloc ?_ (by first | omega | (simp; omega) | simp) _ | refine Below.setCell ?_ (by first | omega | (simp; omega) | simp) _))).mono ?_
    rintro e w1 ⟨rfl, hb1⟩
    have hw1 : Below w.heap.size w w1 := (((Below.refl _ w).alloc (Nat.le_refl _) _).alloc (by simp) _).trans (hb1.mono (by simp; omega))
    have hgx : Blk w1 w.heap.size 35 #[.slice A g.length cp] := ((blk_at rfl).alloc _).below hb1 (by simp; omega)
    have hox : Blk w1 (w.heap.size + 1) 48 #[.bool false, .int .i64 0] := (blk_at (by simp)).below hb1 (by simp)
    have g0 : w1.cell? ⟨w.heap.size, 0, none⟩ = some (.slice A g.length cp) := hgx.cell 0
    clear hb1
    go_wp2_with fail
    refine (HN.out _ hw1).mono ?_
    rintro e w2 ⟨c, hcg, hcs, hch, ⟨hhk, hlm, -⟩, rfl, hok, hpar, hb2, hcB⟩
    have hw2 : Below w.heap.size w w2 := hw1.trans (hb2.mono hw1.size)
    have hox2 := hox.below hb2 hox.lt
    have F : c.Fit := PC.fit (by rw [hcg]; exact HW.out) (by rw [hcs]; exact h60) hok hhk hlm hch (by rw [hcg]; exact HWF.out)
    have hru := (does F m).2.2 0 0 ps0 (o, σ1) w2 (by rw [hcg, hcs, hhk]; exact HPK.out) (by rw [hcg]; exact hpos) (by omega) (bound0 _) hpar
    have HRU := Lib.hid hru
    have hzw := hw1.size
    have hxl := hox.lt
    have hBP := hok.BP
    have hBM := hok.BM
    have hBb := hok.Bb
    have hPs := hpar.size
    have hPb := hok.P
    clear hru hb2
    go_wp2_with fail
    refine HRU.out.mono ?_
    rintro e w3 ⟨⟨v, rfl, hv⟩, q1, q2⟩
    obtain ⟨b, n, hbn⟩ : ∃ (b : Bool) (n : Int), outV v = .agg #[.bool b, .int .i64 n] := by cases v <;> exact ⟨_, _, rfl⟩
    have hvo : v = o := by
      simp only at hv
      rw [hv]
      cases v with
      | none => rfl
      | some k => simp
    subst hvo
    obtain ⟨lv, hP, hrow⟩ := q1.par
    have hti := q1.tight
    obtain ⟨V, lc, rfl⟩ := own_form hrow
    obtain ⟨l', hl'⟩ := pk_last HPK.out
    rw [show v.map (· - 0) = v by cases v <;> rfl] at hl'
    rw [hcg, hcs, hsl] at hti
    have hox3 : Blk w3 (w.heap.size + 1) 48 #[.bool false, .int .i64 0] := q2.box hox2 (by decide) (by omega) (by omega)
    have hw3 : Below w.heap.size w w3 := hw2.trans (q2.below (by have := hw2.size; omega) (by omega) (by omega) (by omega))
    have hrow3 : (((w3.setCell ⟨w.heap.size + 1, 0, none⟩ (.bool b)).setCell ⟨w.heap.size + 1, 1, none⟩ (.int .i64 n)).alloc (.cells #[.bool b, .int .i64 n] 48)).drew.ownsRow w.heap.size 95 4 (.slice V σ1.log.length lc) σ1.log.length (σ1.log.flatMap stepC) := by
      have hne : ∀ (W : World), World.ownsRow W c.base 95 4 (.slice V σ1.log.length lc) σ1.log.length (σ1.log.flatMap stepC) → ∀ i u, World.ownsRow (W.setCell ⟨w.heap.size + 1, i, none⟩ u) c.base 95 4 (.slice V σ1.log.length lc) σ1.log.length (σ1.log.flatMap stepC) := fun W hW i u =>
        own_far hW (g := w.heap.size + 1) ⟨rfl, rfl, rfl, by simp [World.setCell], fun q hq hne => Below.heap_setCell W ⟨w.heap.size + 1, i, none⟩ u q (by rintro rfl; exact hne rfl)⟩ (by omega)
      have h0 := own_below (hne _ (hne _ hrow 0 (.bool b)) 1 (.int .i64 n)) ((Below.refl _ _).alloc (Nat.le_refl _) (.cells #[.bool b, .int .i64 n] 48))
      exact ownsRow_low h0 (by omega)
    have s3 : w3.cell? ⟨c.P, 3, none⟩ = some (.slice V σ1.log.length lc) := hP.cell 3
    have hox4 : Blk (w3.alloc (.cells #[.bool b, .int .i64 n] 48)) (w.heap.size + 1) 48 #[.bool false, .int .i64 0] := hox3.alloc _
    have hbx4 : Blk (w3.alloc (.cells #[.bool b, .int .i64 n] 48)) w3.heap.size 48 #[.bool b, .int .i64 n] := blk_at rfl
    have yz0 : w3.cell? ⟨w.heap.size + 1, 0, none⟩ = some (.bool false) := hox3.cell 0; have yz1 : w3.cell? ⟨w.heap.size + 1, 1, none⟩ = some (.int .i64 0) := hox3.cell 1; have yf0 := hox3.frozen 0; have yf1 := hox3.frozen 1; have ye0 : (w3.setCell ⟨w.heap.size + 1, 0, none⟩ (.bool b)).cell? ⟨w.heap.size + 1, 0, none⟩ = some (.bool b) := (hox3.set_ 0 _).cell 0; have ye1 : ((w3.setCell ⟨w.heap.size + 1, 0, none⟩ (.bool b)).setCell ⟨w.heap.size + 1, 1, none⟩ (.int .i64 n)).cell? ⟨w.heap.size + 1, 1, none⟩ = some (.int .i64 n) := ((hox3.set_ 0 _).set_ 1 _).cell 1
    have hox6 := ((((hox3.set_ 0 (.bool b)).set_ 1 (.int .i64 n)).alloc (.cells #[.bool b, .int .i64 n] 48)).drew)
    have yg0 : (((w3.setCell ⟨w.heap.size + 1, 0, none⟩ (.bool b)).setCell ⟨w.heap.size + 1, 1, none⟩ (.int .i64 n)).alloc (.cells #[.bool b, .int .i64 n] 48)).drew.cell? ⟨w.heap.size + 1, 0, none⟩ = some (.bool b) := hox6.cell 0
    have yg1 : (((w3.setCell ⟨w.heap.size + 1, 0, none⟩ (.bool b)).setCell ⟨w.heap.size + 1, 1, none⟩ (.int .i64 n)).alloc (.cells #[.bool b, .int .i64 n] 48)).drew.cell? ⟨w.heap.size + 1, 1, none⟩ = some (.int .i64 n) := hox6.cell 1
    have HG0 := Lib.hid yg0
    have HG1 := Lib.hid yg1
    clear yg0 yg1 hox6
    have z0 : w3.cell? ⟨w.heap.size + 1, 0, none⟩ = some (.bool false) := hox3.cell 0
    have z1 : w3.cell? ⟨w.heap.size + 1, 1, none⟩ = some (.int .i64 0) := hox3.cell 1
    have f0 := hox3.frozen 0
    have f1 := hox3.frozen 1
    have hl3 := hox3.lt
    have hPl := hP.lt
    have hPne : c.P ≠ w.heap.size + 1 := by omega
    have hne3 : w3.heap.size ≠ w.heap.size + 1 := by omega
    have HTI := Lib.hid hti
    have HRW := Lib.hid hrow3
    have HLL := Lib.hid hl'
    rw [hbn]
    clear q1 q2 HRU hpar hok F hrow hP hti hrow3 hl' hox4 hbx4
    go_wp2_with fail
    go_region
    all_goals
      go_wp2
      exact bodyPost_ret (v := .tuple #[.agg #[.bool b, .int .i64 n], .slice V σ1.log.length lc, .int .i64 0]) (by simp only [results, Try.results37]; simp [go_sem, HG0.out, HG1.out]) rfl ⟨(by repeat (first | exact Below.refl _ _ | assumption | refine Below.drew ?_ | refine below_drewN ?_ _ | refine Below.alloc ?_ (by first | omega | (simp; omega) | simp) _ | refine Below.setCell ?_ (by first | omega | (simp; omega) | simp) _)), .inr ⟨HL0.out, v, σ1, V, lc, l', ⟨m, HPK.out⟩, HAG.out, HTI.out, HLL.out, by rw [hbn], HRW.out⟩⟩
  · have hxb : (lookG g s != 0) = true := by rw [bne_iff_ne]; exact hl0
    have H0 := Lib.hid hl0
    have HX : Hid (∃ x, lookG g s = x ∧ x ≠ 0) := ⟨_, rfl, hl0⟩
    clear hl0
    go_enter Try.func37, Try.ntmps37
    go_wp2_with fail
    refine (HLK.out _ (by repeat (first | exact Below.refl _ _ | assumption | refine Below.drew ?_ | refine below_drewN ?_ _ | refine Below.alloc ?_ (by first | omega | (simp; omega) | simp) _ | refine Below.setCell ?_ (by first | omega | (simp; omega) | simp) _))).mono ?_
    rintro e w1 ⟨rfl, hb1⟩
    have hw1 : Below w.heap.size w w1 := (((Below.refl _ w).alloc (Nat.le_refl _) _).alloc (by simp) _).trans (hb1.mono (by simp; omega))
    have hox : Blk w1 (w.heap.size + 1) 48 #[.bool false, .int .i64 0] := (blk_at (by simp)).below hb1 (by simp)
    have yz0 : w1.cell? ⟨w.heap.size + 1, 0, none⟩ = some (.bool false) := hox.cell 0; have yz1 : w1.cell? ⟨w.heap.size + 1, 1, none⟩ = some (.int .i64 0) := hox.cell 1; have yf0 := hox.frozen 0; have yf1 := hox.frozen 1; have ye0 : (w1.setCell ⟨w.heap.size + 1, 0, none⟩ (.bool false)).cell? ⟨w.heap.size + 1, 0, none⟩ = some (.bool false) := (hox.set_ 0 _).cell 0; have ye1 : ((w1.setCell ⟨w.heap.size + 1, 0, none⟩ (.bool false)).setCell ⟨w.heap.size + 1, 1, none⟩ (.int .i64 0)).cell? ⟨w.heap.size + 1, 1, none⟩ = some (.int .i64 0) := ((hox.set_ 0 _).set_ 1 _).cell 1
    have hzw := hw1.size
    clear hb1
    go_wp2
    exact bodyPost_ret (v := .tuple #[.agg #[.bool false, .int .i64 0], .slice none 0 0, .int .i64 (lookG g s)]) (by simp [results, Try.results37, go_sem, ye0, ye1]) rfl ⟨(by repeat (first | exact Below.refl _ _ | assumption | refine Below.drew ?_ | refine below_drewN ?_ _ | refine Below.alloc ?_ (by first | omega | (simp; omega) | simp) _ | refine Below.setCell ?_ (by first | omega | (simp; omega) | simp) _)), .inl ⟨H0.out, rfl⟩⟩
end Go.Proofs.Ytndhbdbfjkmloaa
namespace Go.Proofs.Ytndhbdbfjkmloaa

/-- what is open: a rule, where it began, the kids so far (the last one opened comes first) -/
abbrev Fr := Int × Int × List Tr
def bld : List Ev → List Fr → Option Tr
  | [], _ => none
  | (k, r, a) :: es, st =>
    if k = 1 then bld es ((r, a, []) :: st)
    else match st with
      | [] => none
      | (r', f, ks) :: st' =>
        if k = 2 ∧ r' = r then
          match st' with
          | [] => if es = [] then some (.mk r' f a ks) else none
          | (r2, f2, ks2) :: st2 => bld es ((r2, f2, ks2 ++ [.mk r' f a ks]) :: st2)
        else none

/-- a tree's events, and what comes behind -/
def bldT (t : Tr) (es : List Ev) : List Fr → Option Tr
  | [] => if es = [] then some t else none
  | (r, f, ks) :: st => bld es ((r, f, ks ++ [t]) :: st)

theorem bld_open (r a : Int) (es : List Ev) (st : List Fr) : bld ((1, r, a) :: es) st = bld es ((r, a, []) :: st) := by
  rw [bld.eq_def]
  simp
theorem bld_close (r f a : Int) (ks : List Tr) (es : List Ev) (st : List Fr) : bld ((2, r, a) :: es) ((r, f, ks) :: st) = bldT (.mk r f a ks) es st := by
  cases st with
  | nil => simp [bld, bldT]
  | cons x st => obtain ⟨r2, f2, ks2⟩ := x; simp [bld, bldT]
theorem bld_all : ∀ (ks : List Tr), (∀ t ∈ ks, ∀ es st, bld (evs t ++ es) st = bldT t es st) → ∀ (r f : Int) (k0 : List Tr) (es : List Ev) (st : List Fr), bld (evsAll ks ++ es) ((r, f, k0) :: st) = bld es ((r, f, k0 ++ ks) :: st)
  | [], _, r, f, k0, es, st => by simp [evsAll]
  | t :: ks, h, r, f, k0, es, st => by
    rw [evsAll, List.append_assoc, h t (by simp)]
    show bld _ ((r, f, k0 ++ [t]) :: st) = _
    rw [bld_all ks (fun t' ht => h t' (by simp [ht])), List.append_assoc]
    rfl
theorem bld_evs (t : Tr) : ∀ es st, bld (evs t ++ es) st = bldT t es st := by
  refine Tr.ind (P := fun t => ∀ es st, bld (evs t ++ es) st = bldT t es st) ?_ t
  intro r f u ks ih es st
  rw [evs]
  show bld ((1, r, f) :: ((evsAll ks ++ [(2, r, u)]) ++ es)) st = _
  rw [bld_open, List.append_assoc, bld_all ks ih]
  exact bld_close r f u ks es st
theorem bld_back (t : Tr) : bld (evs t) [] = some t := by
  have := bld_evs t [] []
  rw [List.append_nil] at this
  rw [this]
  rfl
end Go.Proofs.Ytndhbdbfjkmloaa
namespace Go.Proofs.Ytndhbdbfjkmloaa
open Go.RowKit

/-- the cells of trees, one behind the other -/
def KidsAre (w : World) (S : Nat → Prop) : List Tr → List Value → Prop
  | [], xs => xs = []
  | t :: ts, xs => ∃ c rest, xs = c ++ rest ∧ TrIs w S t c ∧ KidsAre w S ts rest
theorem KidsAre.snoc {w : World} {S : Nat → Prop} {t : Tr} {c : List Value} (ht : TrIs w S t c) : ∀ {ks : List Tr} {xs : List Value}, KidsAre w S ks xs → KidsAre w S (ks ++ [t]) (xs ++ c)
  | [], xs, h => by
    have h : xs = [] := h
    subst h
    exact ⟨c, [], by simp, ht, rfl⟩
  | t' :: ks, xs, h => by
    obtain ⟨c', rest, rfl, h1, h2⟩ := h
    exact ⟨c', rest ++ c, by simp, h1, h2.snoc ht⟩
theorem KidsAre.keep {w w' : World} {S S' : Nat → Prop} (hS : ∀ b, S b → S' b) (hk : ∀ p : Addr, S p.block → w'.cell? p = w.cell? p) : ∀ {ks : List Tr} {xs : List Value}, KidsAre w S ks xs → KidsAre w' S' ks xs
  | [], _, h => h
  | _ :: _, _, h => by
    obtain ⟨c, rest, rfl, h1, h2⟩ := h
    exact ⟨c, rest, rfl, h1.keep hS hk, KidsAre.keep hS hk h2⟩
theorem KidsAre.at_ {w : World} {S : Nat → Prop} : ∀ {ks : List Tr} {xs : List Value}, KidsAre w S ks xs → ∀ (i : Nat) (t : Tr), ks[i]? = some t → ∃ c, TrIs w S t c ∧ ∀ j u, c[j]? = some u → xs[i * 4 + j]? = some u
  | [], _, _, i, t, h => by simp at h
  | t' :: ks, xs, h, 0, t, ht => by
    obtain ⟨c, rest, rfl, h1, h2⟩ := h
    simp at ht
    subst ht
    exact ⟨c, h1, fun j u hu => by rw [Nat.zero_mul, Nat.zero_add, List.getElem?_append_left (getElem?_lt hu)]; exact hu⟩
  | t' :: ks, xs, h, i + 1, t, ht => by
    obtain ⟨c, rest, rfl, h1, h2⟩ := h
    obtain ⟨c', h3, h4⟩ := KidsAre.at_ h2 i t (by simpa using ht)
    have hl := h1.len
    exact ⟨c', h3, fun j u hu => by rw [List.getElem?_append_right (by omega), ← h4 j u hu, hl]; congr 1; omega⟩

/-- what is open: its cells (the first one opened ahead), and the blocks that hold their kids -/
def StackIs (w : World) (S : Nat → Prop) (base : Nat) : List Fr → List Value → List Nat → Prop
  | [], xs, used => xs = [] ∧ used = []
  | (r, f, ks) :: st, xs, used => ∃ ys A c kxs used', xs = ys ++ [.int .i64 r, .int .i64 f, .int .i64 0, .slice A ks.length c] ∧ w.ownsRow base 38 4 (.slice A ks.length c) ks.length kxs ∧ KidsAre w S ks kxs ∧
      used = (Value.slice A ks.length c).ownBlock.toList ++ used' ∧ StackIs w S base st ys used'
theorem own_heap {w w' : World} {base : Nat} {e : TypeId} {size : Nat} {v : Value} {n : Nat} {xs : List Value} (h : w.ownsRow base e size v n xs) (hk : ∀ b, v.ownBlock = some b → w'.heap[b]? = w.heap[b]?) : w'.ownsRow base e size v n xs := by
  refine ⟨h.1, h.2.imp id ?_⟩
  rintro ⟨g, cap, cur, rfl, h1, h2, h3⟩
  exact ⟨g, cap, cur, rfl, h1, (hk g rfl).trans h2, h3⟩
theorem StackIs.keep {w w' : World} {S S' : Nat → Prop} {base : Nat} (hS : ∀ b, S b → S' b) (hk : ∀ p : Addr, S p.block → w'.cell? p = w.cell? p) : ∀ {st : List Fr} {xs : List Value} {used : List Nat}, StackIs w S base st xs used → (∀ b ∈ used, w'.heap[b]? = w.heap[b]?) → StackIs w' S' base st xs used
  | [], _, _, h, _ => h
  | (r, f, ks) :: st, _, _, h, hu => by
    obtain ⟨ys, A, c, kxs, used', rfl, h1, h2, rfl, h3⟩ := h
    exact ⟨ys, A, c, kxs, used', rfl, own_heap h1 (fun b hb => hu b (by rw [hb]; simp)), h2.keep hS hk, rfl, StackIs.keep hS hk h3 fun b hb => hu b (by simp [hb])⟩
theorem StackIs.len {w : World} {S : Nat → Prop} {base : Nat} : ∀ {st : List Fr} {xs : List Value} {used : List Nat}, StackIs w S base st xs used → xs.length = st.length * 4
  | [], _, _, h => by rw [h.1]; rfl
  | (r, f, ks) :: st, _, _, h => by
    obtain ⟨ys, A, c, kxs, used', rfl, h1, h2, rfl, h3⟩ := h
    have := StackIs.len h3
    simp
    omega
theorem StackIs.lt {w : World} {S : Nat → Prop} {base : Nat} : ∀ {st : List Fr} {xs : List Value} {used : List Nat}, StackIs w S base st xs used → ∀ b ∈ used, base ≤ b ∧ b < w.heap.size
  | [], _, _, h => by rw [h.2]; simp
  | (r, f, ks) :: st, _, _, h => by
    obtain ⟨ys, A, c, kxs, used', rfl, h1, h2, rfl, h3⟩ := h
    intro b hb
    rcases List.mem_append.1 hb with hb | hb
    · exact h1.lt b (by simpa using hb)
    · exact StackIs.lt h3 b hb

/-- the memory of event.Build -/
structure BldMem (w : World) (base : Nat) (st : List Fr) (V : Option Addr) (m cp : Nat) (xs : List Value) (used : List Nat) (S : Nat → Prop) : Prop where
  cnt : m = st.length
  own : w.ownsRow base 38 4 (.slice V m cp) m xs
  stack : StackIs w S base st xs used
  nodup : used.Nodup
  ne : ∀ b ∈ used, some b ≠ (Value.slice V m cp).ownBlock
  sep : ∀ b, S b → b < w.heap.size ∧ b ∉ used ∧ some b ≠ (Value.slice V m cp).ownBlock
  low : ∀ b, S b → base ≤ b

theorem BldMem.below {w w' : World} {base : Nat} {st : List Fr} {V : Option Addr} {m cp : Nat} {xs : List Value} {used : List Nat} {S : Nat → Prop} (h : BldMem w base st V m cp xs used S) (hb : Below w.heap.size w w') : BldMem w' base st V m cp xs used S where
  cnt := h.cnt
  own := own_below h.own hb
  stack := h.stack.keep (fun _ h => h) (fun _ hp => hb.cell (h.sep _ hp).1) (fun b hu => hb.block b (h.stack.lt b hu).2)
  nodup := h.nodup
  ne := h.ne
  sep b hS := ⟨Nat.lt_of_lt_of_le (h.sep b hS).1 hb.size, (h.sep b hS).2⟩
  low := h.low
/-- one more is opened -/
theorem BldMem.push {w w' : World} {base : Nat} {st : List Fr} {V : Option Addr} {m cp : Nat} {xs : List Value} {used : List Nat} {S : Nat → Prop} (h : BldMem w base st V m cp xs used S) (r a : Int) {g cap : Nat}
    (hown : w'.ownsRow base 38 4 (.slice (some ⟨g, 0, none⟩) (m + 1) cap) (m + 1) (xs ++ [.int .i64 r, .int .i64 a, .int .i64 0, .slice none 0 0]))
    (hgrow : w.grownBy w' (Value.slice V m cp).ownBlock) (hat : (Value.slice V m cp).ownBlock = some g ∨ g = w.heap.size) :
    BldMem w' base ((r, a, []) :: st) (some ⟨g, 0, none⟩) (m + 1) cap (xs ++ [.int .i64 r, .int .i64 a, .int .i64 0, .slice none 0 0]) used S where
  cnt := by rw [h.cnt]; rfl
  own := hown
  stack := ⟨xs, none, 0, [], used, rfl, ⟨rfl, .inl ⟨rfl, rfl⟩⟩, rfl, by simp [Value.ownBlock], h.stack.keep (fun _ h => h) (fun _ hp => World.cell?_of_block (hgrow.block _ (h.sep _ hp).1 (h.sep _ hp).2.2)) (fun b hu => hgrow.block b (h.stack.lt b hu).2 (h.ne b hu))⟩
  nodup := h.nodup
  ne b hb e := by
    simp [Value.ownBlock] at e
    rcases hat with h1 | h1
    · exact h.ne b hb (by rw [h1, e])
    · have := (h.stack.lt b hb).2
      omega
  sep b hS := by
    obtain ⟨h1, h2, h3⟩ := h.sep b hS
    refine ⟨Nat.lt_of_lt_of_le h1 hgrow.size, h2, fun e => ?_⟩
    simp [Value.ownBlock] at e
    rcases hat with h4 | h4
    · exact h3 (by rw [h4, e])
    · omega
  low := h.low

/-- what is opened last, and what is left without it -/
theorem BldMem.pop {w : World} {base : Nat} {st : List Fr} {V : Option Addr} {m cp : Nat} {xs : List Value} {used : List Nat} {S : Nat → Prop} {r f : Int} {ks : List Tr} (h : BldMem w base ((r, f, ks) :: st) V m cp xs used S) :
    ∃ ys A c used' g, m = st.length + 1 ∧ V = some ⟨g, 0, none⟩ ∧ base ≤ g ∧ g < w.heap.size ∧ xs = ys ++ [.int .i64 r, .int .i64 f, .int .i64 0, .slice A ks.length c] ∧ ys.length = st.length * 4 ∧
      (∀ a : Int, TrIs w (fun b => S b ∨ some b = (Value.slice A ks.length c).ownBlock) (.mk r f a ks) [.int .i64 r, .int .i64 f, .int .i64 a, .slice A ks.length c]) ∧
      BldMem w base st V st.length cp ys used' (fun b => S b ∨ some b = (Value.slice A ks.length c).ownBlock) := by
  obtain ⟨hm, hown, ⟨ys, A, c, kxs, used', rfl, h1, h2, rfl, h3⟩, hnd, hne, hsep, hlow⟩ := h
  have hl := h3.len
  have hm' : m = st.length + 1 := hm
  obtain ⟨g, cap, hv, hg, hlt⟩ := hown.form (by omega)
  simp only [Value.slice.injEq] at hv
  obtain ⟨rfl, -, rfl⟩ := hv
  refine ⟨ys, A, c, used', g, hm', rfl, hg, hlt, rfl, hl, fun a => ?_, ?_⟩
  · have hb : 0 < ks.length → ∃ ad : Addr, A = some ad ∧ (S ad.block ∨ some ad.block = (Value.slice A ks.length c).ownBlock) := by
      intro h0
      obtain ⟨g', c', hv', _, _⟩ := h1.form h0
      simp only [Value.slice.injEq] at hv'
      obtain ⟨rfl, -, -⟩ := hv'
      exact ⟨_, rfl, .inr rfl⟩
    have hcap : ks.length ≤ c ∧ c ≤ maxLen := by
      rcases h1.2 with ⟨e, e2⟩ | ⟨g', c', cur, e, _, _, e1, e2, _⟩
      · simp only [Value.slice.injEq] at e
        rw [e.2.1, e.2.2]
        exact ⟨Nat.le_refl _, by unfold maxLen; omega⟩
      · simp only [Value.slice.injEq] at e
        rw [e.2.2]
        exact ⟨e1, e2⟩
    have hrow : ∀ i, i < ks.length → ∃ c, (∀ t, ks[i]? = some t → TrIs w S t c) ∧ ∀ j u, c[j]? = some u → kxs[i * 4 + j]? = some u := by
      intro i hi
      obtain ⟨c, hc1, hc2⟩ := h2.at_ i _ (List.getElem?_eq_getElem hi)
      exact ⟨c, fun t ht => by rw [List.getElem?_eq_getElem hi] at ht; injection ht with ht; rw [← ht]; exact hc1, hc2⟩
    obtain ⟨q, hq⟩ := @tr_row (List Value) ⟨[]⟩ _ _ hrow
    refine .mk r f a ks A c q hcap.1 hcap.2 hb (fun i t ht => ((hq i (getElem?_lt ht)).1 t ht).keep (fun b h => .inl h) (fun _ _ => rfl)) (fun i t ad ht hA j u hu => ?_)
    obtain ⟨g', c', hv', _, _⟩ := h1.form (by have := getElem?_lt ht; omega)
    simp only [Value.slice.injEq] at hv'
    rw [hA] at hv'
    obtain ⟨e, -, -⟩ := hv'
    injection e with e
    subst e
    subst hA
    have := h1.cells (g := g') rfl (i * 4 + j) u ((hq i (getElem?_lt ht)).2 j u hu)
    rw [add_add']
    exact this
  · refine ⟨rfl, ?_, h3.keep (fun b h => .inl h) (fun _ _ => rfl) (fun _ _ => rfl), (List.nodup_append.1 hnd).2.1, fun b hb => hne b (List.mem_append.2 (.inr hb)), ?_, fun b hb => hb.elim (hlow b) fun hb => (h1.lt b hb.symm).1⟩
    · refine ⟨by rw [hl], ?_⟩
      rcases hown.2 with ⟨e, _⟩ | ⟨g', c', cur, e, e1, e2, e3, e4, e5, e6⟩
      · cases e
      · simp only [Value.slice.injEq, Option.some.injEq, Addr.mk.injEq, and_true, true_and] at e
        obtain ⟨rfl, rfl⟩ := e
        refine .inr ⟨_, _, cur, rfl, e1, e2, by omega, e4, e5, ?_⟩
        have := congrArg (List.take (st.length * 4)) e6
        rw [List.take_take, Nat.min_eq_left (by omega), List.take_append_of_le_length (by omega), List.take_of_length_le (l := ys) (by omega)] at this
        exact this
    · intro b hb
      rcases hb with hb | hb
      · obtain ⟨q1, q2, q3⟩ := hsep b hb
        exact ⟨q1, fun h => q2 (List.mem_append.2 (.inr h)), q3⟩
      · have hmem : b ∈ (Value.slice A ks.length c).ownBlock.toList := by rw [← hb]; simp
        refine ⟨(h1.lt b hb.symm).2, fun hu => ?_, hne b (List.mem_append.2 (.inl hmem))⟩
        exact (List.nodup_append.1 hnd).2.2 b hmem b hu rfl
end Go.Proofs.Ytndhbdbfjkmloaa
