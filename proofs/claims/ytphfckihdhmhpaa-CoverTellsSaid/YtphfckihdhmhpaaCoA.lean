/- chaffref.All: the nodes of a right grammar, in the order of their numbers. -/
import Derived.Test.YtphfckihdhmhpaaNdB
import Derived.Test.YtphfckihdhmhpaaCoQ
import Derived.Test.YtphfckihdhmhpaaGaR
import Derived.Deep.DeepCutAuto
namespace Go.Proofs.Ytphfckihdhmhpaa
open Go.RowKit Go.Maps

theorem preD_fsts : ∀ (es : List Ex) (dp : Nat), (∀ e ∈ es, ∀ dp, (preD e dp).map (·.1) = preL e) → (preDs es dp).map (·.1) = preLs es
  | [], _, _ => by rw [preDs, preLs]; rfl
  | e :: es, dp, h => by rw [preDs, preLs, List.map_append, h e (by simp), preD_fsts es dp fun e he => h e (by simp [he])]
theorem preD_fst (e : Ex) : ∀ dp, (preD e dp).map (·.1) = preL e := by
  refine Ex.ind (P := fun e => ∀ dp, (preD e dp).map (·.1) = preL e) ?_ e
  intro k a b c d t ks ih dp
  rw [preD, preL, List.map_cons, preD_fsts ks _ ih]
/-- expressions with their cells -/
abbrev Exc := Ex × List Value
def exnF (l : List Exc) : List Value := l.flatMap fun x => x.2
def ExnOk (w : World) (B : Nat) (l : List Exc) : Prop := ∀ x ∈ l, ExIs w B x.1 x.2
theorem exnF_app (l l' : List Exc) : exnF (l ++ l') = exnF l ++ exnF l' := by unfold exnF; rw [List.flatMap_append]
theorem exnF_len {w : World} {B : Nat} : ∀ {l : List Exc}, ExnOk w B l → (exnF l).length = l.length * 7
  | [], _ => rfl
  | x :: l, h => by
    have h1 := ex_len (h x (by simp))
    have h2 := exnF_len (l := l) fun y hy => h y (by simp [hy])
    unfold exnF at h2 ⊢
    rw [List.flatMap_cons, List.length_append, h1, h2, List.length_cons]
    omega
theorem exnF_get {w : World} {B : Nat} : ∀ {l : List Exc}, ExnOk w B l → ∀ {i : Nat} {x : Exc}, l[i]? = some x → ∀ {u : Nat} {v : Value}, x.2[u]? = some v → (exnF l)[i * 7 + u]? = some v
  | [], _, i, x, h, _, _, _ => by simp at h
  | y :: l, h, 0, x, hr, u, v, hu => by
    simp only [List.getElem?_cons_zero, Option.some.injEq] at hr
    subst hr
    unfold exnF
    rw [List.flatMap_cons, Nat.zero_mul, Nat.zero_add, List.getElem?_append_left (getElem?_lt hu)]
    exact hu
  | y :: l, h, i + 1, x, hr, u, v, hu => by
    have h1 := ex_len (h y (by simp))
    have h2 := exnF_get (l := l) (fun x hx => h x (by simp [hx])) (i := i) (by simpa using hr) hu
    unfold exnF at h2 ⊢
    rw [List.flatMap_cons, List.getElem?_append_right (by omega), h1, show (i + 1) * 7 + u - 7 = i * 7 + u by omega]
    exact h2
/-- an expression in a row of such -/
theorem exn_at {w W : World} {B C n : Nat} {A : Option Addr} {l : List Exc} (h : Reads W C 7 A n (exnF l)) (hok : ExnOk w B l) (hn : l.length = n) {i : Nat} (hi : i < n) :
    ∃ (ad : Addr) (k a b c d : Int) (t : ByteArray) (ks : List Ex) (A' : Option Addr) (cp : Nat), A = some ad ∧ ad.block < C ∧ l[i]? = some (.mk k a b c d t ks, exCells k a b c d t A' ks.length cp) ∧ ExIs w B (.mk k a b c d t ks) (exCells k a b c d t A' ks.length cp) ∧ Seven W (ad.add (i * 7)) k a b c d t A' ks.length cp := by
  obtain ⟨ad, e, hb, hc⟩ := h.lies (by omega)
  obtain ⟨⟨x, cs⟩, hx⟩ : ∃ x, l[i]? = some x := ⟨_, List.getElem?_eq_getElem (by omega)⟩
  have hE := hok _ (List.mem_of_getElem? hx)
  cases x with
  | mk k a b c d t ks =>
  obtain ⟨_, A', cp, hcs, _⟩ := hE.shape
  simp only at hcs hE
  subst hcs
  refine ⟨ad, k, a, b, c, d, t, ks, A', cp, e, hb, hx, hE, Seven.of fun j u hu => ?_⟩
  rw [add_add']
  exact hc _ u (exnF_get hok hx hu)
/-- a node in a row of nodes -/
theorem nde_at {w W : World} {B C n : Nat} {A : Option Addr} {l : List Nde} (h : Reads W C 8 A n (ndF l)) (hok : NdOkB B w l) (hn : l.length = n) {i : Nat} (hi : i < n) :
    ∃ (ad : Addr) (k a b c d : Int) (t : ByteArray) (ks : List Ex) (A' : Option Addr) (cp dp : Nat), A = some ad ∧ ad.block < C ∧ l[i]? = some (.mk k a b c d t ks, dp, exCells k a b c d t A' ks.length cp) ∧ ExIs w B (.mk k a b c d t ks) (exCells k a b c d t A' ks.length cp) ∧ Seven W (ad.add (i * 8)) k a b c d t A' ks.length cp ∧ W.cell? ⟨(ad.add (i * 8)).block, (ad.add (i * 8)).off + 7, none⟩ = some (.int .i64 dp) := by
  obtain ⟨ad, e, hb, hc⟩ := h.lies (by omega)
  obtain ⟨⟨x, dp, cs⟩, hx⟩ : ∃ x, l[i]? = some x := ⟨_, List.getElem?_eq_getElem (by omega)⟩
  have hE := hok _ (List.mem_of_getElem? hx)
  cases x with
  | mk k a b c d t ks =>
  obtain ⟨_, A', cp, hcs, _⟩ := hE.shape
  simp only at hcs hE
  subst hcs
  have hg : ∀ u v, (ndC (Ex.mk k a b c d t ks, dp, exCells k a b c d t A' ks.length cp))[u]? = some v → W.cell? ((ad.add (i * 8)).add u) = some v := fun u v hu => by
    rw [add_add']
    exact hc _ v (ndF_get hok hx hu)
  refine ⟨ad, k, a, b, c, d, t, ks, A', cp, dp, e, hb, hx, hE, Seven.of fun j u hu => hg j u ?_, hg 7 _ rfl⟩
  unfold ndC
  rw [List.getElem?_append_left (getElem?_lt hu)]
  exact hu
/-- what All leaves -/
def AllQ (g : List Rl) (w : World) (e : Ending) (w' : World) : Prop := ∃ V c ns, e = .returned (.slice V ns.length c) ∧ ns.map (·.1) = preLs (bodies g) ∧ ExnOk w w.heap.size ns ∧ w'.ownsRow w.heap.size 34 7 (.slice V ns.length c) ns.length (exnF ns) ∧ Below w.heap.size w w'
theorem preLs_app : ∀ (a b : List Ex), preLs (a ++ b) = preLs a ++ preLs b
  | [], b => by rw [List.nil_append, preLs, List.nil_append]
  | e :: a, b => by rw [List.cons_append, preLs, preLs, preLs_app a b, List.append_assoc]
theorem expr_infoA : (Try.prog.info? 34).map (fun i => (i.zero, i.size, i.bytes)) = some (some (.agg #[.int .i64 0, .int .u64 0, .int .u64 0, .int .u64 0, .int .u64 0, .string ⟨#[]⟩, .slice none 0 0]), 7, 80) := by kernel_rfl
theorem reads_grownF {w w' : World} {B size n : Nat} {A : Option Addr} {xs : List Value} {row : Option Nat} (h : Reads w B size A n xs) (hg : w.grownBy w' row) (hB : B ≤ w.heap.size) (hr : ∀ ad : Addr, A = some ad → some ad.block ≠ row) : Reads w' B size A n xs where
  len := h.len
  lies hn := by
    obtain ⟨ad, e, hb, hc⟩ := h.lies hn
    refine ⟨ad, e, hb, fun j u hu => ?_⟩
    rw [World.cell?_of_block (hg.block (ad.add j).block (by rw [add_block]; omega) (by rw [add_block]; exact hr ad e))]
    exact hc j u hu
theorem own_base_leA {w : World} {base n c size : Nat} {e : TypeId} {V : Option Addr} {xs : List Value} (h : w.ownsRow base e size (.slice V n c) n xs) : ∀ ad : Addr, V = some ad → base ≤ ad.block := fun ad hV => by
  subst hV
  rcases h.2 with ⟨h1, _⟩ | ⟨g, cap, cur, hv, h3, _⟩
  · cases h1
  · injection hv with e1
    injection e1 with e1
    subst e1
    exact h3

theorem ownsRow_lowA {w : World} {base base' n size : Nat} {e : TypeId} {v : Value} {xs : List Value} (h : w.ownsRow base e size v n xs) (hb : base' ≤ base) : w.ownsRow base' e size v n xs := by
  refine ⟨h.1, ?_⟩
  rcases h.2 with h0 | ⟨g, cap, cur, h1, h2, h3⟩
  · exact .inl h0
  · exact .inr ⟨g, cap, cur, h1, by omega, h3⟩
set_option maxRecDepth 100000 in
set_option maxHeartbeats 1000000 in
theorem all_nodes {g : List Rl} {A : Option Addr} {cp : Nat} {row : Nat → List Value} {w : World} (h : GrIs w w.heap.size g A cp row) (R : RightG g) :
    Calls Try.prog 33 #[.agg #[.slice A g.length cp]] w (AllQ g w) := by
  obtain ⟨i0, hi0, hz0, hz1, hz2⟩ := info_parts expr_infoA
  have h10 := R.ten
  have h120 := R.nodes
  have hle := h.le
  have hcap := h.cap
  unfold maxLen at hcap
  have hlen : (preLs (bodies g)).length ≤ 120 := by
    rw [preLs_len]
    have : nodesAll (bodies g) = (g.map fun r => nodes r.2).sum := by
      clear h R h10 h120 hle hcap
      unfold bodies
      induction g with
      | nil => rfl
      | cons r g ih => rw [List.map_cons, List.map_cons, nodesAll, List.sum_cons, ih]
    omega
  have HG := Lib.hid h
  have HR := Lib.hid R
  have HQ : Hid (∀ V c ns w', ns.map (·.1) = preLs (bodies g) → ExnOk w w.heap.size ns → w'.ownsRow w.heap.size 34 7 (.slice V ns.length c) ns.length (exnF ns) → Below w.heap.size w w' → AllQ g w (.returned (.slice V ns.length c)) w') := fun V c ns w' a1 a2 a3 a4 => ⟨V, c, ns, rfl, a1, a2, a3, a4⟩
  generalize AllQ g w = Q at HQ ⊢
  clear h R
  go_enter Try.func33, Try.ntmps33
  go_wp2
  go_loopw [3, 5, 7, 11] (fun vo _ _ i wr => ∃ (j : Nat) (ns : List Exc) (V : Option Addr) (co : Nat), j ≤ g.length ∧ i = .int .i64 j ∧ vo = .slice V ns.length co ∧ Hid (ns.map (·.1) = preLs ((bodies g).take j)) ∧ Hid (ExnOk w w.heap.size ns) ∧ Hid (wr.ownsRow (w.heap.size + 1) 34 7 (.slice V ns.length co) ns.length (exnF ns)) ∧ Blk wr w.heap.size 24 #[.slice A g.length cp] ∧ Below w.heap.size w wr) (fun _ _ _ i _ => g.length - (intOf i).toNat)
  case atStart => exact ⟨0, [], none, 0, by omega, rfl, rfl, by show _ = _; rw [List.take_zero, preLs]; rfl, fun x hx => (by cases hx), World.ownsRow_nil _ _ _ _, blk_at rfl, (by repeat (first | exact Below.refl _ _ | assumption | refine Below.drew ?_ | refine below_drewN ?_ _ | refine Below.alloc ?_ (by first | omega | (simp; omega) | simp) _ | refine Below.setCell ?_ (by first | omega | (simp; omega) | simp) _))⟩
  case round =>
    obtain ⟨j, ns, V, co, hj, rfl, rfl, HM, HOK, HO, hbg, hwr⟩ := hrel
    have hwz := hwr.size
    have hgl := hbg.lt
    have g0 : wr.cell? ⟨w.heap.size, 0, none⟩ = some (.slice A g.length cp) := hbg.cell 0
    have hnl : ns.length ≤ 120 := by
      have h1 := congrArg List.length HM.out
      rw [List.length_map, preLs_len] at h1
      rw [preLs_len] at hlen
      have h2 : nodesAll ((bodies g).take j) ≤ nodesAll (bodies g) := by
        have := congrArg List.length (preLs_app ((bodies g).take j) ((bodies g).drop j))
        rw [List.take_append_drop, List.length_append, preLs_len, preLs_len] at this
        omega
      omega
    by_cases hjk : j < g.length
    · obtain ⟨ad, nm, k', a', b', c', d', t', ks', A', cp', rfl, hab, hej, hnm, hE, ⟨e0, e1, e2, e3, e4, e5, e6, e7⟩⟩ := (HG.out.on hwr).rule hjk
      have hbody : (bodies g)[j]? = some (.mk k' a' b' c' d' t' ks') := by unfold bodies; rw [List.getElem?_map, hej]; rfl
      have h60 := HR.out.body _ (List.mem_of_getElem? hej)
      have hnd := fun W (hW : Below wr.heap.size wr W) => nodesB_any h60 (B := w.heap.size) (w := W) (by have := hW.size; omega) (hE.on (hW.mono hwz))
      unfold exCells at hnd
      have HND := Lib.hid hnd
      have HB := Lib.hid hbody
      have HL := Lib.hid (nodesAll_take hbody)
      clear hE hej hnd h60 hbody
      go_wp2_with fail
      refine (HND.out _ (by repeat (first | exact Below.refl _ _ | assumption | refine Below.drew ?_ | refine below_drewN ?_ _ | refine Below.alloc ?_ (by first | omega | (simp; omega) | simp) _ | refine Below.setCell ?_ (by first | omega | (simp; omega) | simp) _))).mono ?_
      rintro e w5 ⟨hb5, V5, c5, l5, rfl, hmap, hok5, ho5⟩
      have hwW : Below w.heap.size w (wr.alloc (.cells #[.string nm, .int .i64 k', .int .u64 a', .int .u64 b', .int .u64 c', .int .u64 d', .string t', .slice A' ks'.length cp'] 36)) := (by repeat (first | exact Below.refl _ _ | assumption | refine Below.drew ?_ | refine below_drewN ?_ _ | refine Below.alloc ?_ (by first | omega | (simp; omega) | simp) _ | refine Below.setCell ?_ (by first | omega | (simp; omega) | simp) _))
      have hokw : NdOkB w.heap.size w l5 := fun r hr => (hok5 r hr).keep (Nat.le_refl _) fun p hp => (hwW.cell hp).symm
      have hw5 := hwW.trans (hb5.mono hwW.size)
      have hbg5 := (hbg.alloc (.cells #[.string nm, .int .i64 k', .int .u64 a', .int .u64 b', .int .u64 c', .int .u64 d', .string t', .slice A' ks'.length cp'] 36)).below hb5 (by simp; omega)
      have HO5 := Lib.hid (own_below (HO.out.alloc (.cells #[.string nm, .int .i64 k', .int .u64 a', .int .u64 b', .int .u64 c', .int .u64 d', .string t', .slice A' ks'.length cp'] 36)) hb5)
      have HR5 : Hid (Reads w5 w5.heap.size 8 V5 l5.length (ndF l5)) := Reads.of_own ho5
      have HP5 : Hid (∀ ad : Addr, V5 = some ad → some ad.block ≠ (Value.slice V ns.length co).ownBlock) := fun ad hV he => by
        have h1 := own_base_leA ho5 ad hV
        have h2 := HO.out.lt ad.block he.symm
        simp at h1
        omega
      have hfst : l5.map (·.1) = preL (.mk k' a' b' c' d' t' ks') := by
        have := congrArg (List.map (·.1)) hmap
        rw [preD_fst, List.map_map] at this
        exact this
      have hl5 : l5.length = nodes (.mk k' a' b' c' d' t' ks') := by have := congrArg List.length hfst; rwa [List.length_map, preL_len] at this
      have hl60 : l5.length ≤ 120 := by
        have h1 := HL.out
        rw [preLs_len] at hlen
        omega
      have hsum : ns.length + l5.length ≤ 120 := by
        have h1 := congrArg List.length HM.out
        rw [List.length_map, preLs_len] at h1
        have h2 := HL.out
        rw [preLs_len] at hlen
        omega
      have HFST := Lib.hid hfst
      have HOKW := Lib.hid hokw
      have hz5 := hw5.size
      have hbg5l := hbg5.lt
      have HM5 : Hid (ns.map (·.1) = preLs ((bodies g).take j) ++ (l5.map (·.1)).take 0) := by show _ = _; rw [HM.out, List.take_zero, List.append_nil]
      clear hb5 hmap hok5 ho5 hwW hokw HND hfst HM HO hbg g0 e0 e1 e2 e3 e4 e5 e6 e7 hl5
      obtain ⟨n0, hn0⟩ : ∃ n0, n0 = ns.length := ⟨_, rfl⟩
      rw [← hn0] at hsum
      have HN0 := Lib.hid hn0
      clear hn0
      go_wp2
      go_loopw [3, 7, 19] (fun vo _ i wi => ∃ (q : Nat) (ns : List Exc) (V : Option Addr) (co : Nat), q ≤ l5.length ∧ i = .int .i64 q ∧ vo = .slice V ns.length co ∧ ns.length ≤ n0 + q ∧ Hid (ns.map (·.1) = preLs ((bodies g).take j) ++ (l5.map (·.1)).take q) ∧ Hid (ExnOk w w.heap.size ns) ∧ Hid (wi.ownsRow (w.heap.size + 1) 34 7 (.slice V ns.length co) ns.length (exnF ns)) ∧ Hid (∀ ad : Addr, V5 = some ad → some ad.block ≠ (Value.slice V ns.length co).ownBlock) ∧ Hid (Reads wi w5.heap.size 8 V5 l5.length (ndF l5)) ∧ Blk wi w.heap.size 24 #[.slice (some ad) g.length cp] ∧ Below w.heap.size w wi ∧ w5.heap.size ≤ wi.heap.size) (fun _ _ i _ => l5.length - (intOf i).toNat)
      case atStart => exact ⟨0, ns, V, co, by omega, rfl, rfl, by have := HN0.out; omega, HM5, HOK, HO5, HP5, HR5, hbg5, hw5, Nat.le_refl _⟩
      case round =>
        clear HM5 HO5 HP5 HR5 hbg5 hw5 HOK HN0
        obtain ⟨q, ns, V, co, hq, rfl, rfl, hnq, HM, HOK, HO, HP, HR5, hbg, hwi, h5i⟩ := hrel
        have hwiz := hwi.size
        by_cases hqn : q < l5.length
        · obtain ⟨sad, k2, a2, b2, c2, d2, t2, ks2, A2, cp2, dp, rfl, hsab, hx, hE2, ⟨s0, s1, s2, s3, s4, s5, s6⟩, s7⟩ := nde_at HR5.out HOKW.out rfl hqn
          have HT : Hid ((l5.map (·.1)).take (q + 1) = (l5.map (·.1)).take q ++ [.mk k2 a2 b2 c2 d2 t2 ks2]) := take_succ_of (by rw [List.getElem?_map, hx]; rfl)
          have HE2 := Lib.hid hE2
          have hsl : sad.block < wr.heap.size := by omega
          clear hx hE2
          go_upto_region 8 with fail
          have hbx : Blk (wr.alloc (.cells #[.int .i64 k2, .int .u64 a2, .int .u64 b2, .int .u64 c2, .int .u64 d2, .string t2, .slice A2 ks2.length cp2, .int .i64 dp] 126)) wr.heap.size 126 #[.int .i64 k2, .int .u64 a2, .int .u64 b2, .int .u64 c2, .int .u64 d2, .string t2, .slice A2 ks2.length cp2, .int .i64 dp] := blk_at rfl
          have hOa := HO.out.alloc (.cells #[.int .i64 k2, .int .u64 a2, .int .u64 b2, .int .u64 c2, .int .u64 d2, .string t2, .slice A2 ks2.length cp2, .int .i64 dp] 126)
          have hRa := HR5.out.alloc h5i (.cells #[.int .i64 k2, .int .u64 a2, .int .u64 b2, .int .u64 c2, .int .u64 d2, .string t2, .slice A2 ks2.length cp2, .int .i64 dp] 126)
          have hga := hbg.alloc (.cells #[.int .i64 k2, .int .u64 a2, .int .u64 b2, .int .u64 c2, .int .u64 d2, .string t2, .slice A2 ks2.length cp2, .int .i64 dp] 126)
          have hwa : Below w.heap.size w (wr.alloc (.cells #[.int .i64 k2, .int .u64 a2, .int .u64 b2, .int .u64 c2, .int .u64 d2, .string t2, .slice A2 ks2.length cp2, .int .i64 dp] 126)) := hwi.alloc hwiz _
          have hsa : w5.heap.size ≤ (wr.alloc (.cells #[.int .i64 k2, .int .u64 a2, .int .u64 b2, .int .u64 c2, .int .u64 d2, .string t2, .slice A2 ks2.length cp2, .int .i64 dp] 126)).heap.size := by simp; omega
          generalize (wr.alloc (.cells #[.int .i64 k2, .int .u64 a2, .int .u64 b2, .int .u64 c2, .int .u64 d2, .string t2, .slice A2 ks2.length cp2, .int .i64 dp] 126)) = wk at hbx hOa hRa hga hwa hsa ⊢
          generalize wr.heap.size = rb at hbx ⊢
          have x0 : wk.cell? ⟨rb, 0, none⟩ = some (.int .i64 k2) := hbx.cell 0; have x1 : wk.cell? ⟨rb, 1, none⟩ = some (.int .u64 a2) := hbx.cell 1; have x2 : wk.cell? ⟨rb, 2, none⟩ = some (.int .u64 b2) := hbx.cell 2; have x3 : wk.cell? ⟨rb, 3, none⟩ = some (.int .u64 c2) := hbx.cell 3; have x4 : wk.cell? ⟨rb, 4, none⟩ = some (.int .u64 d2) := hbx.cell 4; have x5 : wk.cell? ⟨rb, 5, none⟩ = some (.string t2) := hbx.cell 5; have x6 : wk.cell? ⟨rb, 6, none⟩ = some (.slice A2 ks2.length cp2) := hbx.cell 6
          have hwaz := hwa.size
          have HOA := Lib.hid hOa
          have HRA := Lib.hid hRa
          clear s0 s1 s2 s3 s4 s5 s6 s7 hOa hRa HO HR5 hbg hwi h5i
          go_wp2_with (at_builtin; refine wpList_append_own_at _ rfl _ _ _ rfl (w.heap.size + 1) 34 i0 _ 7 80 Try.underlying32 hi0 hz0 hz1 hz2 rfl (by decide) _ ns.length (exnF ns) rfl (HOA.out.alloc _) ⟨wk.heap.size, 0, none⟩ 1 1 [.int .i64 k2, .int .u64 a2, .int .u64 b2, .int .u64 c2, .int .u64 d2, .string t2, .slice A2 ks2.length cp2] rfl rfl (newN wk 34 [.int .i64 k2, .int .u64 a2, .int .u64 b2, .int .u64 c2, .int .u64 d2, .string t2, .slice A2 ks2.length cp2]) (by simp [Value.oneCell']) (by unfold maxLen; omega) (by omega) (by have := hga.lt; simp; omega) ?_; intro v' w6 hown6 hgr6 hnil6 hat6; obtain ⟨V6, c6, rfl⟩ := own_form hown6)
          have hw6 : Below w.heap.size w w6 := below_app (hwa.alloc hwaz _) (HOA.out.alloc _) hgr6 (by simp; omega) (by omega)
          have hg6 := (hga.alloc (.cells #[.int .i64 k2, .int .u64 a2, .int .u64 b2, .int .u64 c2, .int .u64 d2, .string t2, .slice A2 ks2.length cp2] 34)).grown hgr6 (own_ne HOA.out (Nat.lt_succ_self _))
          have HR6 := Lib.hid (reads_grownF (HRA.out.alloc hsa (.cells #[.int .i64 k2, .int .u64 a2, .int .u64 b2, .int .u64 c2, .int .u64 d2, .string t2, .slice A2 ks2.length cp2] 34)) hgr6 (by simp; omega) HP.out)
          have HP6 : Hid (∀ ad : Addr, some sad = some ad → some ad.block ≠ (Value.slice V6 (ns.length + 1) c6).ownBlock) := fun ad hV he => by
            injection hV with hV
            subst hV
            rcases hat6 with h1 | h1
            · rw [h1] at he
              exact HP.out _ rfl he
            · rw [h1] at he
              injection he with he
              simp at he
              omega
          have HM6 : Hid ((ns ++ [((.mk k2 a2 b2 c2 d2 t2 ks2 : Ex), exCells k2 a2 b2 c2 d2 t2 A2 ks2.length cp2)]).map (·.1) = preLs ((bodies g).take j) ++ (l5.map (·.1)).take (q + 1)) := by
            show _ = _
            rw [List.map_append, HM.out, HT.out, List.append_assoc]
            rfl
          have HOK6 : Hid (ExnOk w w.heap.size (ns ++ [((.mk k2 a2 b2 c2 d2 t2 ks2 : Ex), exCells k2 a2 b2 c2 d2 t2 A2 ks2.length cp2)])) := fun x hx => by
            rcases List.mem_append.1 hx with hx | hx
            · exact HOK.out x hx
            · rw [List.mem_singleton] at hx
              rw [hx]
              exact HE2.out
          have h6z := hgr6.size
          simp only [World.size_alloc] at h6z
          have HO6 := Lib.hid hown6
          clear hown6 hgr6 hnil6 hat6 HRA HP HOA x0 x1 x2 x3 x4 x5 x6 hbx
          go_roundw
          case rel => exact ⟨q + 1, _, V6, c6, by omega, by go_num, by rw [List.length_append]; rfl, by rw [List.length_append, List.length_singleton]; omega, HM6, HOK6, by rw [List.length_append, exnF_app]; exact HO6, by rw [List.length_append]; exact HP6, HR6, hg6, hw6, by omega⟩
          case measure => simp [intOf]; omega
        · obtain rfl : q = l5.length := by omega
          have HM7 : Hid (ns.map (·.1) = preLs ((bodies g).take (j + 1))) := by
            show _ = _
            have ht : (l5.map (·.1)).take l5.length = l5.map (·.1) := List.take_of_length_le (by rw [List.length_map]; exact Nat.le_refl _)
            rw [HM.out, ht, HFST.out, take_succ_of HB.out, preLs_app, preLs, preLs, List.append_nil]
          clear HM HP HR5
          go_wp2
          go_roundw
          case rel => exact ⟨j + 1, ns, V, co, by omega, by go_num, rfl, HM7, HOK, HO, hbg, hwi⟩
          case measure => simp [intOf]; omega
    · obtain rfl : j = g.length := by omega
      have hMF : ns.map (·.1) = preLs (bodies g) := by
        have := HM.out
        rwa [List.take_of_length_le (by unfold bodies; rw [List.length_map]; exact Nat.le_refl _)] at this
      have HF := Lib.hid (HQ.out V co ns wr hMF HOK.out (ownsRow_lowA HO.out (Nat.le_succ _)) hwr)
      clear HM HO HOK hbg g0 hMF
      go_wp2
      exact HF.out
end Go.Proofs.Ytphfckihdhmhpaa
