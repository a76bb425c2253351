/- (*finder).of: the bytes with which an expression may begin. -/
import Derived.Test.YtjmckmjngnmagaaFiA
namespace Go.Proofs.Ytjmckmjngnmagaa
open Go.RowKit

/-- the boxes of the walk: the finder, the expression, the result, what is gathered -/
structure FBox (A FA KA : Option Addr) (m cp n fcp kn kcp X : Nat) (bc : Array Value) (x : B4) (w W : World) : Prop where
  bel : Below w.heap.size w W
  fx : Blk W X 100 #[.slice A m cp, .slice FA n fcp, .slice KA kn kcp]
  ex : Blk W w.heap.size 35 bc
  rs : Blk W (w.heap.size + 1) 32 #[.int .u64 0, .int .u64 0, .int .u64 0, .int .u64 0]
  out : Blk W (w.heap.size + 1 + 1) 32 #[.int .u64 x.s4.a, .int .u64 x.s4.b, .int .u64 x.s4.c, .int .u64 x.s4.d]
section
variable {A FA KA : Option Addr} {m cp n fcp kn kcp X : Nat} {bc : Array Value} {x : B4} {w W W' : World}
theorem FBox.below (h : FBox A FA KA m cp n fcp kn kcp X bc x w W) (hb : Below W.heap.size W W') : FBox A FA KA m cp n fcp kn kcp X bc x w W' :=
  ⟨h.bel.trans (hb.mono h.bel.size), h.fx.below hb h.fx.lt, h.ex.below hb h.ex.lt, h.rs.below hb h.rs.lt, h.out.below hb h.out.lt⟩
theorem FBox.drew (h : FBox A FA KA m cp n fcp kn kcp X bc x w W) : FBox A FA KA m cp n fcp kn kcp X bc x w W.drew := ⟨h.bel.drew, h.fx.drew, h.ex.drew, h.rs.drew, h.out.drew⟩
theorem FBox.alloc (h : FBox A FA KA m cp n fcp kn kcp X bc x w W) (o : Obj) : FBox A FA KA m cp n fcp kn kcp X bc x w (W.alloc o) := h.below ((Below.refl _ _).alloc (Nat.le_refl _) o)
theorem FBox.put (h : FBox A FA KA m cp n fcp kn kcp X bc x w W) (hX : X < w.heap.size) (y : B4) :
    FBox A FA KA m cp n fcp kn kcp X bc y w ((((W.setCell ⟨w.heap.size + 1 + 1, 0, none⟩ (.int .u64 y.s4.a)).setCell ⟨w.heap.size + 1 + 1, 1, none⟩ (.int .u64 y.s4.b)).setCell ⟨w.heap.size + 1 + 1, 2, none⟩ (.int .u64 y.s4.c)).setCell ⟨w.heap.size + 1 + 1, 3, none⟩ (.int .u64 y.s4.d)) := by
  have hf : ∀ {b : Nat} {t : TypeId} {cs : Array Value}, b ≠ w.heap.size + 1 + 1 → Blk W b t cs → Blk ((((W.setCell ⟨w.heap.size + 1 + 1, 0, none⟩ (.int .u64 y.s4.a)).setCell ⟨w.heap.size + 1 + 1, 1, none⟩ (.int .u64 y.s4.b)).setCell ⟨w.heap.size + 1 + 1, 2, none⟩ (.int .u64 y.s4.c)).setCell ⟨w.heap.size + 1 + 1, 3, none⟩ (.int .u64 y.s4.d)) b t cs := fun hb hk => (((hk.far hb _).far hb _).far hb _).far hb _
  refine ⟨?_, hf (by omega) h.fx, hf (by omega) h.ex, hf (by omega) h.rs, (((h.out.set_ 0 _).set_ 1 _).set_ 2 _).set_ 3 _⟩
  exact ((((h.bel.setCell (by simp; omega) _).setCell (by simp; omega) _).setCell (by simp; omega) _).setCell (by simp; omega) _)
end
/-- what finder.of leaves -/
def FirQ (x : B4) (w : World) (e : Ending) (w' : World) : Prop := e = .returned (.agg #[.int .u64 x.s4.a, .int .u64 x.s4.b, .int .u64 x.s4.c, .int .u64 x.s4.d]) ∧ Below w.heap.size w w'

set_option maxRecDepth 100000 in
set_option maxHeartbeats 8000000 in
theorem fof_any {g : List Rl} {fs : List Fa} {kn : List B4} {A FA KA : Option Addr} {cp fcp kcp X : Nat} {row : Nat → List Value} (hlen : fs.length = g.length) (hkn : kn.length = g.length) (e : Ex) : ∀ (cs : List Value) (w : World), GrIs w w.heap.size g A cp row → Reads w w.heap.size 3 FA fs.length (facs fs) →
    Reads w w.heap.size 4 KA kn.length (setC kn) → Blk w X 100 #[.slice A g.length cp, .slice FA fs.length fcp, .slice KA kn.length kcp] → ExIs w w.heap.size e cs → Rt g e → WfE e →
    Calls Try.prog 48 #[.pointer (some ⟨X, 0, none⟩), .agg cs.toArray] w (FirQ (firE g fs kn e) w) := by
  refine Ex.ind (P := fun e => ∀ (cs : List Value) (w : World), GrIs w w.heap.size g A cp row → Reads w w.heap.size 3 FA fs.length (facs fs) →
    Reads w w.heap.size 4 KA kn.length (setC kn) → Blk w X 100 #[.slice A g.length cp, .slice FA fs.length fcp, .slice KA kn.length kcp] → ExIs w w.heap.size e cs → Rt g e → WfE e →
    Calls Try.prog 48 #[.pointer (some ⟨X, 0, none⟩), .agg cs.toArray] w (FirQ (firE g fs kn e) w)) ?_ e
  intro k a b c d t ks ih cs w hG hF hK hX hE hR hW
  cases hR with
  | mk _ _ _ _ _ _ _ hfit hname hkids =>
  cases hW with
  | mk _ _ _ _ _ _ _ hk64 wa wb wc wd wks =>
  obtain ⟨ht, EA, kcp', rfl, hkc, hkm, _⟩ := hE.shape
  unfold exCells
  have hXl := hX.lt
  have hbox : FBox A FA KA g.length cp fs.length fcp kn.length kcp X #[.int .i64 k, .int .u64 a, .int .u64 b, .int .u64 c, .int .u64 d, .string t, .slice EA ks.length kcp'] B4.no w (((w.alloc (.cells #[.int .i64 k, .int .u64 a, .int .u64 b, .int .u64 c, .int .u64 d, .string t, .slice EA ks.length kcp'] 35)).alloc (.cells #[.int .u64 0, .int .u64 0, .int .u64 0, .int .u64 0] 32)).alloc (.cells #[.int .u64 0, .int .u64 0, .int .u64 0, .int .u64 0] 32)) :=
    ⟨(by repeat (first | exact Below.refl _ _ | assumption | refine Below.drew ?_ | refine below_drewN ?_ _ | refine Below.alloc ?_ (by first | omega | (simp; omega) | simp) _ | refine Below.setCell ?_ (by first | omega | (simp; omega) | simp) _)), ((hX.alloc _).alloc _).alloc _, ((blk_at rfl).alloc _).alloc _, (blk_at (by simp)).alloc _, blk_at (by simp)⟩
  have HBX := Lib.hid hbox
  have HLEN := Lib.hid hlen
  have HKN := Lib.hid hkn
  clear hbox
  have hfd := fun W (hW : Below w.heap.size w W) => find_any ((hG.on hW).more hW.size) t
  have HFD := Lib.hid hfd
  rw [firE]
  have hend : ∀ (W : World) (y : B4), FBox A FA KA g.length cp fs.length fcp kn.length kcp X #[.int .i64 k, .int .u64 a, .int .u64 b, .int .u64 c, .int .u64 d, .string t, .slice EA ks.length kcp'] y w W → True := fun _ _ _ => trivial
  clear hend
  rcases fit_cases hfit with ⟨rfl, h0⟩ | ⟨rfl, h0⟩ | ⟨rfl, h0, ht0, _⟩ | ⟨rfl, h0, _⟩ | hrest
  · have hr : firK g fs kn 1 ks B4.no = B4.no := by
      cases ks with
      | nil => rw [firK]
      | cons e es => simp at h0
    rw [if_neg (by decide), if_neg (by decide), if_neg (by decide), if_neg (by decide), hr]
    have hkl : (ks.length : Int) = 0 := by omega
    clear hG hF hK hE ih hlen hkn hX
    rw [h0] at HBX ⊢
    go_enter Try.func48, Try.ntmps48
    go_wp2
    go_loopw [47] (fun i wr => i = .int .i64 0 ∧ FBox A FA KA g.length cp fs.length fcp kn.length kcp X #[.int .i64 1, .int .u64 a, .int .u64 b, .int .u64 c, .int .u64 d, .string t, .slice EA 0 kcp'] B4.no w wr) (fun _ _ => 0)
    case atStart => exact ⟨rfl, HBX.out⟩
    case round =>
      obtain ⟨rfl, h1⟩ := hrel
      have o0 : wr.cell? ⟨w.heap.size + 1 + 1, 0, none⟩ = some (.int .u64 (B4.no).s4.a) := h1.out.cell 0
      have o1 : wr.cell? ⟨w.heap.size + 1 + 1, 1, none⟩ = some (.int .u64 (B4.no).s4.b) := h1.out.cell 1
      have o2 : wr.cell? ⟨w.heap.size + 1 + 1, 2, none⟩ = some (.int .u64 (B4.no).s4.c) := h1.out.cell 2
      have o3 : wr.cell? ⟨w.heap.size + 1 + 1, 3, none⟩ = some (.int .u64 (B4.no).s4.d) := h1.out.cell 3
      have hrl := h1.rs.lt
      have hbw := h1.bel
      have hzw := hbw.size
      have yz0 : wr.cell? ⟨w.heap.size + 1, 0, none⟩ = some (.int .u64 0) := h1.rs.cell 0; have yz1 : wr.cell? ⟨w.heap.size + 1, 1, none⟩ = some (.int .u64 0) := h1.rs.cell 1; have yz2 : wr.cell? ⟨w.heap.size + 1, 2, none⟩ = some (.int .u64 0) := h1.rs.cell 2; have yz3 : wr.cell? ⟨w.heap.size + 1, 3, none⟩ = some (.int .u64 0) := h1.rs.cell 3; have yf0 := h1.rs.frozen 0; have yf1 := h1.rs.frozen 1; have yf2 := h1.rs.frozen 2; have yf3 := h1.rs.frozen 3; have ye0 : (wr.setCell ⟨w.heap.size + 1, 0, none⟩ (.int .u64 (B4.no).s4.a)).cell? ⟨w.heap.size + 1, 0, none⟩ = some (.int .u64 (B4.no).s4.a) := (h1.rs.set_ 0 _).cell 0; have ye1 : ((wr.setCell ⟨w.heap.size + 1, 0, none⟩ (.int .u64 (B4.no).s4.a)).setCell ⟨w.heap.size + 1, 1, none⟩ (.int .u64 (B4.no).s4.b)).cell? ⟨w.heap.size + 1, 1, none⟩ = some (.int .u64 (B4.no).s4.b) := ((h1.rs.set_ 0 _).set_ 1 _).cell 1; have ye2 : (((wr.setCell ⟨w.heap.size + 1, 0, none⟩ (.int .u64 (B4.no).s4.a)).setCell ⟨w.heap.size + 1, 1, none⟩ (.int .u64 (B4.no).s4.b)).setCell ⟨w.heap.size + 1, 2, none⟩ (.int .u64 (B4.no).s4.c)).cell? ⟨w.heap.size + 1, 2, none⟩ = some (.int .u64 (B4.no).s4.c) := (((h1.rs.set_ 0 _).set_ 1 _).set_ 2 _).cell 2; have ye3 : ((((wr.setCell ⟨w.heap.size + 1, 0, none⟩ (.int .u64 (B4.no).s4.a)).setCell ⟨w.heap.size + 1, 1, none⟩ (.int .u64 (B4.no).s4.b)).setCell ⟨w.heap.size + 1, 2, none⟩ (.int .u64 (B4.no).s4.c)).setCell ⟨w.heap.size + 1, 3, none⟩ (.int .u64 (B4.no).s4.d)).cell? ⟨w.heap.size + 1, 3, none⟩ = some (.int .u64 (B4.no).s4.d) := ((((h1.rs.set_ 0 _).set_ 1 _).set_ 2 _).set_ 3 _).cell 3
      go_wp2
      exact bodyPost_ret (v := .agg #[.int .u64 (B4.no).s4.a, .int .u64 (B4.no).s4.b, .int .u64 (B4.no).s4.c, .int .u64 (B4.no).s4.d]) (by simp [results, Try.results48, go_sem, ye0, ye1, ye2, ye3]) rfl ⟨rfl, (by repeat (first | exact Below.refl _ _ | assumption | refine Below.drew ?_ | refine below_drewN ?_ _ | refine Below.alloc ?_ (by first | omega | (simp; omega) | simp) _ | refine Below.setCell ?_ (by first | omega | (simp; omega) | simp) _))⟩
  · rw [if_pos rfl]
    have hs4 := B4.of_s4 wa wb wc wd
    generalize hB : B4.of a b c d = B at hs4
    have e1 : a = B.s4.a := by rw [hs4]
    have e2 : b = B.s4.b := by rw [hs4]
    have e3 : c = B.s4.c := by rw [hs4]
    have e4 : d = B.s4.d := by rw [hs4]
    clear hB hs4
    subst e1 e2 e3 e4
    clear hG hF hK hE ih hlen hkn hX wa wb wc wd hfit hname hfd
    rw [h0] at HBX ⊢
    have hrs := HBX.out.rs
    have yz0 : (((w.alloc (.cells #[.int .i64 2, .int .u64 B.s4.a, .int .u64 B.s4.b, .int .u64 B.s4.c, .int .u64 B.s4.d, .string t, .slice EA 0 kcp'] 35)).alloc (.cells #[.int .u64 0, .int .u64 0, .int .u64 0, .int .u64 0] 32)).alloc (.cells #[.int .u64 0, .int .u64 0, .int .u64 0, .int .u64 0] 32)).cell? ⟨w.heap.size + 1, 0, none⟩ = some (.int .u64 0) := hrs.cell 0; have yz1 : (((w.alloc (.cells #[.int .i64 2, .int .u64 B.s4.a, .int .u64 B.s4.b, .int .u64 B.s4.c, .int .u64 B.s4.d, .string t, .slice EA 0 kcp'] 35)).alloc (.cells #[.int .u64 0, .int .u64 0, .int .u64 0, .int .u64 0] 32)).alloc (.cells #[.int .u64 0, .int .u64 0, .int .u64 0, .int .u64 0] 32)).cell? ⟨w.heap.size + 1, 1, none⟩ = some (.int .u64 0) := hrs.cell 1; have yz2 : (((w.alloc (.cells #[.int .i64 2, .int .u64 B.s4.a, .int .u64 B.s4.b, .int .u64 B.s4.c, .int .u64 B.s4.d, .string t, .slice EA 0 kcp'] 35)).alloc (.cells #[.int .u64 0, .int .u64 0, .int .u64 0, .int .u64 0] 32)).alloc (.cells #[.int .u64 0, .int .u64 0, .int .u64 0, .int .u64 0] 32)).cell? ⟨w.heap.size + 1, 2, none⟩ = some (.int .u64 0) := hrs.cell 2; have yz3 : (((w.alloc (.cells #[.int .i64 2, .int .u64 B.s4.a, .int .u64 B.s4.b, .int .u64 B.s4.c, .int .u64 B.s4.d, .string t, .slice EA 0 kcp'] 35)).alloc (.cells #[.int .u64 0, .int .u64 0, .int .u64 0, .int .u64 0] 32)).alloc (.cells #[.int .u64 0, .int .u64 0, .int .u64 0, .int .u64 0] 32)).cell? ⟨w.heap.size + 1, 3, none⟩ = some (.int .u64 0) := hrs.cell 3; have yf0 := hrs.frozen 0; have yf1 := hrs.frozen 1; have yf2 := hrs.frozen 2; have yf3 := hrs.frozen 3; have ye0 : ((((w.alloc (.cells #[.int .i64 2, .int .u64 B.s4.a, .int .u64 B.s4.b, .int .u64 B.s4.c, .int .u64 B.s4.d, .string t, .slice EA 0 kcp'] 35)).alloc (.cells #[.int .u64 0, .int .u64 0, .int .u64 0, .int .u64 0] 32)).alloc (.cells #[.int .u64 0, .int .u64 0, .int .u64 0, .int .u64 0] 32)).setCell ⟨w.heap.size + 1, 0, none⟩ (.int .u64 B.s4.a)).cell? ⟨w.heap.size + 1, 0, none⟩ = some (.int .u64 B.s4.a) := (hrs.set_ 0 _).cell 0; have ye1 : (((((w.alloc (.cells #[.int .i64 2, .int .u64 B.s4.a, .int .u64 B.s4.b, .int .u64 B.s4.c, .int .u64 B.s4.d, .string t, .slice EA 0 kcp'] 35)).alloc (.cells #[.int .u64 0, .int .u64 0, .int .u64 0, .int .u64 0] 32)).alloc (.cells #[.int .u64 0, .int .u64 0, .int .u64 0, .int .u64 0] 32)).setCell ⟨w.heap.size + 1, 0, none⟩ (.int .u64 B.s4.a)).setCell ⟨w.heap.size + 1, 1, none⟩ (.int .u64 B.s4.b)).cell? ⟨w.heap.size + 1, 1, none⟩ = some (.int .u64 B.s4.b) := ((hrs.set_ 0 _).set_ 1 _).cell 1; have ye2 : ((((((w.alloc (.cells #[.int .i64 2, .int .u64 B.s4.a, .int .u64 B.s4.b, .int .u64 B.s4.c, .int .u64 B.s4.d, .string t, .slice EA 0 kcp'] 35)).alloc (.cells #[.int .u64 0, .int .u64 0, .int .u64 0, .int .u64 0] 32)).alloc (.cells #[.int .u64 0, .int .u64 0, .int .u64 0, .int .u64 0] 32)).setCell ⟨w.heap.size + 1, 0, none⟩ (.int .u64 B.s4.a)).setCell ⟨w.heap.size + 1, 1, none⟩ (.int .u64 B.s4.b)).setCell ⟨w.heap.size + 1, 2, none⟩ (.int .u64 B.s4.c)).cell? ⟨w.heap.size + 1, 2, none⟩ = some (.int .u64 B.s4.c) := (((hrs.set_ 0 _).set_ 1 _).set_ 2 _).cell 2; have ye3 : (((((((w.alloc (.cells #[.int .i64 2, .int .u64 B.s4.a, .int .u64 B.s4.b, .int .u64 B.s4.c, .int .u64 B.s4.d, .string t, .slice EA 0 kcp'] 35)).alloc (.cells #[.int .u64 0, .int .u64 0, .int .u64 0, .int .u64 0] 32)).alloc (.cells #[.int .u64 0, .int .u64 0, .int .u64 0, .int .u64 0] 32)).setCell ⟨w.heap.size + 1, 0, none⟩ (.int .u64 B.s4.a)).setCell ⟨w.heap.size + 1, 1, none⟩ (.int .u64 B.s4.b)).setCell ⟨w.heap.size + 1, 2, none⟩ (.int .u64 B.s4.c)).setCell ⟨w.heap.size + 1, 3, none⟩ (.int .u64 B.s4.d)).cell? ⟨w.heap.size + 1, 3, none⟩ = some (.int .u64 B.s4.d) := ((((hrs.set_ 0 _).set_ 1 _).set_ 2 _).set_ 3 _).cell 3
    go_enter Try.func48, Try.ntmps48
    go_wp2
    exact bodyPost_ret (v := .agg #[.int .u64 B.s4.a, .int .u64 B.s4.b, .int .u64 B.s4.c, .int .u64 B.s4.d]) (by simp [results, Try.results48, go_sem]) rfl ⟨rfl, (by repeat (first | exact Below.refl _ _ | assumption | refine Below.drew ?_ | refine below_drewN ?_ _ | refine Below.alloc ?_ (by first | omega | (simp; omega) | simp) _ | refine Below.setCell ?_ (by first | omega | (simp; omega) | simp) _))⟩
  · rw [if_neg (by decide), if_pos rfl]
    have hts : t.data.toList.length = t.size := size_list t
    have htp : 0 < t.size := by
      have : t.data.toList.length ≠ 0 := fun h => ht0 (List.length_eq_zero_iff.1 h)
      omega
    have hb0 := bt_of htp
    have hlt := bt_lt t.data.toList 0
    have hrg := fun W => range_b4 hlt W
    generalize bt t.data.toList 0 = y at hb0 hlt hrg ⊢
    generalize B4.one y = B at hrg ⊢
    have HRG := Lib.hid hrg
    have hwy : IntKind.i64.wrap (y : Int) = (y : Int) := wrapI _ (by omega) (by omega)
    have htp' : (0 : Int) < (t.size : Int) := by omega
    clear hG hF hK hE ih hlen hkn hX wa wb wc wd hfit hname hfd hrg hts
    rw [h0] at HBX ⊢
    go_enter Try.func48, Try.ntmps48
    go_wp2_with fail
    refine wp_region_t (FBox A FA KA g.length cp fs.length fcp kn.length kcp X #[.int .i64 3, .int .u64 a, .int .u64 b, .int .u64 c, .int .u64 d, .string t, .slice EA 0 kcp'] B4.no w) 9 (by kernel_rfl) (by kernel_rfl) HBX.out.drew ?_
    simp only [List.take_succ_cons, List.take_zero]
    repeat
      (first | ((with_reducible apply QW.free rfl); · (intro W hW; have t5 := hW.ex.cell 5; go_simp; first | (go_at_call 21; refine (HRG.out _).mono ?_; exact fun e w' h => ⟨h.1, hW.below h.2⟩) | rfl)) | ((with_reducible apply QW.skip rfl); · (first | exact ⟨_, _, rfl, rfl, .inl rfl⟩ | exact ⟨_, _, rfl, rfl, .inr rfl⟩)) | ((with_reducible apply QW.take rfl); (· exact ⟨_, rfl, rfl⟩); (· (intro W hW; have t5 := hW.ex.cell 5; go_simp; first | (go_at_call 21; refine (HRG.out _).mono ?_; exact fun e w' h => ⟨h.1, hW.below h.2⟩) | rfl)))); (try simp only [Act.put, List.setIfInBounds_toArray, List.set_cons_zero, List.set_cons_succ])
    refine QW.nil ?_
    intro wr h1
    simp only [List.drop]
    have hrl := h1.rs.lt
    have hbw := h1.bel
    have hzw := hbw.size
    have yz0 : wr.cell? ⟨w.heap.size + 1, 0, none⟩ = some (.int .u64 0) := h1.rs.cell 0; have yz1 : wr.cell? ⟨w.heap.size + 1, 1, none⟩ = some (.int .u64 0) := h1.rs.cell 1; have yz2 : wr.cell? ⟨w.heap.size + 1, 2, none⟩ = some (.int .u64 0) := h1.rs.cell 2; have yz3 : wr.cell? ⟨w.heap.size + 1, 3, none⟩ = some (.int .u64 0) := h1.rs.cell 3; have yf0 := h1.rs.frozen 0; have yf1 := h1.rs.frozen 1; have yf2 := h1.rs.frozen 2; have yf3 := h1.rs.frozen 3; have ye0 : (wr.setCell ⟨w.heap.size + 1, 0, none⟩ (.int .u64 B.s4.a)).cell? ⟨w.heap.size + 1, 0, none⟩ = some (.int .u64 B.s4.a) := (h1.rs.set_ 0 _).cell 0; have ye1 : ((wr.setCell ⟨w.heap.size + 1, 0, none⟩ (.int .u64 B.s4.a)).setCell ⟨w.heap.size + 1, 1, none⟩ (.int .u64 B.s4.b)).cell? ⟨w.heap.size + 1, 1, none⟩ = some (.int .u64 B.s4.b) := ((h1.rs.set_ 0 _).set_ 1 _).cell 1; have ye2 : (((wr.setCell ⟨w.heap.size + 1, 0, none⟩ (.int .u64 B.s4.a)).setCell ⟨w.heap.size + 1, 1, none⟩ (.int .u64 B.s4.b)).setCell ⟨w.heap.size + 1, 2, none⟩ (.int .u64 B.s4.c)).cell? ⟨w.heap.size + 1, 2, none⟩ = some (.int .u64 B.s4.c) := (((h1.rs.set_ 0 _).set_ 1 _).set_ 2 _).cell 2; have ye3 : ((((wr.setCell ⟨w.heap.size + 1, 0, none⟩ (.int .u64 B.s4.a)).setCell ⟨w.heap.size + 1, 1, none⟩ (.int .u64 B.s4.b)).setCell ⟨w.heap.size + 1, 2, none⟩ (.int .u64 B.s4.c)).setCell ⟨w.heap.size + 1, 3, none⟩ (.int .u64 B.s4.d)).cell? ⟨w.heap.size + 1, 3, none⟩ = some (.int .u64 B.s4.d) := ((((h1.rs.set_ 0 _).set_ 1 _).set_ 2 _).set_ 3 _).cell 3
    go_wp2
    exact bodyPost_ret (v := .agg #[.int .u64 B.s4.a, .int .u64 B.s4.b, .int .u64 B.s4.c, .int .u64 B.s4.d]) (by simp [results, Try.results48, go_sem, ye0, ye1, ye2, ye3]) rfl ⟨rfl, (by repeat (first | exact Below.refl _ _ | assumption | refine Below.drew ?_ | refine below_drewN ?_ _ | refine Below.alloc ?_ (by first | omega | (simp; omega) | simp) _ | refine Below.setCell ?_ (by first | omega | (simp; omega) | simp) _))⟩
  · rw [if_neg (by decide), if_neg (by decide), if_pos rfl]
    obtain ⟨j, hj⟩ := Int.eq_ofNat_of_zero_le (hname rfl)
    obtain ⟨r, hr, _⟩ := fnd_at (hname rfl)
    have hjl : j < g.length := by
      rw [hj] at hr
      exact getElem?_lt hr
    obtain ⟨ad, B, hKA, hab, hB, hF4⟩ := reads_set hK (show j < kn.length by omega)
    rw [hj]
    simp only [Int.toNat_natCast]
    rw [List.getD_eq_getElem?_getD, hB]
    simp only [Option.getD_some]
    have hfour : ∀ W, Below w.heap.size w W → Four W (ad.add (j * 4)) B := fun W hW => hF4.keep fun q hq => hW.cell (by rw [hq, add_block]; exact hab)
    simp only [hj] at hfd
    have HFD := Lib.hid hfd
    have HFR := Lib.hid hfour
    have hjk : (j : Int) < (kn.length : Int) := by omega
    have hklm : kn.length ≤ 9223372036854775807 := by have := hG.cap; have := hG.le; unfold maxLen at *; omega
    subst hKA
    clear hG hF hK hE ih hlen hkn hX wa wb wc wd hfit hname hfd hF4 hfour hr hj hB
    rw [h0] at HBX ⊢
    go_enter Try.func48, Try.ntmps48
    go_wp2_with fail
    refine wp_region_t (FBox A FA (some ad) g.length cp fs.length fcp kn.length kcp X #[.int .i64 4, .int .u64 a, .int .u64 b, .int .u64 c, .int .u64 d, .string t, .slice EA 0 kcp'] B4.no w) 13 (by kernel_rfl) (by kernel_rfl) HBX.out.drew ?_
    simp only [List.take_succ_cons, List.take_zero]
    repeat
      (first | ((with_reducible apply QW.free rfl); · (intro W hW; have t5 := hW.ex.cell 5; have s0 := hW.fx.cell 0; have s2 := hW.fx.cell 2; obtain ⟨y0, y1, y2, y3⟩ := HFR.out _ hW.bel; go_simp; first | (go_at_call 60; refine (HFD.out _ hW.bel).mono ?_; exact fun e w' h => ⟨h.1, hW.below h.2⟩) | rfl)) | ((with_reducible apply QW.skip rfl); · (first | exact ⟨_, _, rfl, rfl, .inl rfl⟩ | exact ⟨_, _, rfl, rfl, .inr rfl⟩)) | ((with_reducible apply QW.take rfl); (· exact ⟨_, rfl, rfl⟩); (· (intro W hW; have t5 := hW.ex.cell 5; have s0 := hW.fx.cell 0; have s2 := hW.fx.cell 2; obtain ⟨y0, y1, y2, y3⟩ := HFR.out _ hW.bel; go_simp; first | (go_at_call 60; refine (HFD.out _ hW.bel).mono ?_; exact fun e w' h => ⟨h.1, hW.below h.2⟩) | rfl)))); (try simp only [Act.put, List.setIfInBounds_toArray, List.set_cons_zero, List.set_cons_succ])
    refine QW.nil ?_
    intro wr h1
    simp only [List.drop]
    have hrl := h1.rs.lt
    have hbw := h1.bel
    have hzw := hbw.size
    have yz0 : wr.cell? ⟨w.heap.size + 1, 0, none⟩ = some (.int .u64 0) := h1.rs.cell 0; have yz1 : wr.cell? ⟨w.heap.size + 1, 1, none⟩ = some (.int .u64 0) := h1.rs.cell 1; have yz2 : wr.cell? ⟨w.heap.size + 1, 2, none⟩ = some (.int .u64 0) := h1.rs.cell 2; have yz3 : wr.cell? ⟨w.heap.size + 1, 3, none⟩ = some (.int .u64 0) := h1.rs.cell 3; have yf0 := h1.rs.frozen 0; have yf1 := h1.rs.frozen 1; have yf2 := h1.rs.frozen 2; have yf3 := h1.rs.frozen 3; have ye0 : (wr.setCell ⟨w.heap.size + 1, 0, none⟩ (.int .u64 B.s4.a)).cell? ⟨w.heap.size + 1, 0, none⟩ = some (.int .u64 B.s4.a) := (h1.rs.set_ 0 _).cell 0; have ye1 : ((wr.setCell ⟨w.heap.size + 1, 0, none⟩ (.int .u64 B.s4.a)).setCell ⟨w.heap.size + 1, 1, none⟩ (.int .u64 B.s4.b)).cell? ⟨w.heap.size + 1, 1, none⟩ = some (.int .u64 B.s4.b) := ((h1.rs.set_ 0 _).set_ 1 _).cell 1; have ye2 : (((wr.setCell ⟨w.heap.size + 1, 0, none⟩ (.int .u64 B.s4.a)).setCell ⟨w.heap.size + 1, 1, none⟩ (.int .u64 B.s4.b)).setCell ⟨w.heap.size + 1, 2, none⟩ (.int .u64 B.s4.c)).cell? ⟨w.heap.size + 1, 2, none⟩ = some (.int .u64 B.s4.c) := (((h1.rs.set_ 0 _).set_ 1 _).set_ 2 _).cell 2; have ye3 : ((((wr.setCell ⟨w.heap.size + 1, 0, none⟩ (.int .u64 B.s4.a)).setCell ⟨w.heap.size + 1, 1, none⟩ (.int .u64 B.s4.b)).setCell ⟨w.heap.size + 1, 2, none⟩ (.int .u64 B.s4.c)).setCell ⟨w.heap.size + 1, 3, none⟩ (.int .u64 B.s4.d)).cell? ⟨w.heap.size + 1, 3, none⟩ = some (.int .u64 B.s4.d) := ((((h1.rs.set_ 0 _).set_ 1 _).set_ 2 _).set_ 3 _).cell 3
    go_wp2
    exact bodyPost_ret (v := .agg #[.int .u64 B.s4.a, .int .u64 B.s4.b, .int .u64 B.s4.c, .int .u64 B.s4.d]) (by simp [results, Try.results48, go_sem, ye0, ye1, ye2, ye3]) rfl ⟨rfl, (by repeat (first | exact Below.refl _ _ | assumption | refine Below.drew ?_ | refine below_drewN ?_ _ | refine Below.alloc ?_ (by first | omega | (simp; omega) | simp) _ | refine Below.setCell ?_ (by first | omega | (simp; omega) | simp) _))⟩
  · have hk4 : ¬ k = 2 ∧ ¬ k = 3 ∧ ¬ k = 4 ∧ k ≠ 1 := by omega
    rw [if_neg hk4.1, if_neg hk4.2.1, if_neg hk4.2.2.1]
    have b1 : (k == 1) = false := by rw [beq_eq_false_iff_ne]; omega
    have b2 : (k == 2) = false := by rw [beq_eq_false_iff_ne]; omega
    have b3 : (k == 3) = false := by rw [beq_eq_false_iff_ne]; omega
    have b4 : (k == 4) = false := by rw [beq_eq_false_iff_ne]; omega
    by_cases h10 : k = 10 ∨ k = 11
    · rw [if_pos h10]
      have hrs := HBX.out.rs
      have hno : B4.no.s4 = noS := rfl
      clear hG hF hK hE ih hlen hkn hX wa wb wc wd hfit hname hfd hkids wks hrest hk4
      rcases h10 with rfl | rfl
      case inl =>
        have hbox2 := HBX.out
        generalize hW0 : ((((w.alloc (.cells #[.int .i64 10, .int .u64 a, .int .u64 b, .int .u64 c, .int .u64 d, .string t, .slice EA ks.length kcp'] 35)).alloc (.cells #[.int .u64 0, .int .u64 0, .int .u64 0, .int .u64 0] 32)).alloc (.cells #[.int .u64 0, .int .u64 0, .int .u64 0, .int .u64 0] 32))) = W0 at hbox2
        subst hW0
        have yz0 : (((w.alloc (.cells #[.int .i64 10, .int .u64 a, .int .u64 b, .int .u64 c, .int .u64 d, .string t, .slice EA ks.length kcp'] 35)).alloc (.cells #[.int .u64 0, .int .u64 0, .int .u64 0, .int .u64 0] 32)).alloc (.cells #[.int .u64 0, .int .u64 0, .int .u64 0, .int .u64 0] 32)).cell? ⟨w.heap.size + 1, 0, none⟩ = some (.int .u64 0) := hrs.cell 0; have yz1 : (((w.alloc (.cells #[.int .i64 10, .int .u64 a, .int .u64 b, .int .u64 c, .int .u64 d, .string t, .slice EA ks.length kcp'] 35)).alloc (.cells #[.int .u64 0, .int .u64 0, .int .u64 0, .int .u64 0] 32)).alloc (.cells #[.int .u64 0, .int .u64 0, .int .u64 0, .int .u64 0] 32)).cell? ⟨w.heap.size + 1, 1, none⟩ = some (.int .u64 0) := hrs.cell 1; have yz2 : (((w.alloc (.cells #[.int .i64 10, .int .u64 a, .int .u64 b, .int .u64 c, .int .u64 d, .string t, .slice EA ks.length kcp'] 35)).alloc (.cells #[.int .u64 0, .int .u64 0, .int .u64 0, .int .u64 0] 32)).alloc (.cells #[.int .u64 0, .int .u64 0, .int .u64 0, .int .u64 0] 32)).cell? ⟨w.heap.size + 1, 2, none⟩ = some (.int .u64 0) := hrs.cell 2; have yz3 : (((w.alloc (.cells #[.int .i64 10, .int .u64 a, .int .u64 b, .int .u64 c, .int .u64 d, .string t, .slice EA ks.length kcp'] 35)).alloc (.cells #[.int .u64 0, .int .u64 0, .int .u64 0, .int .u64 0] 32)).alloc (.cells #[.int .u64 0, .int .u64 0, .int .u64 0, .int .u64 0] 32)).cell? ⟨w.heap.size + 1, 3, none⟩ = some (.int .u64 0) := hrs.cell 3; have yf0 := hrs.frozen 0; have yf1 := hrs.frozen 1; have yf2 := hrs.frozen 2; have yf3 := hrs.frozen 3; have ye0 : ((((w.alloc (.cells #[.int .i64 10, .int .u64 a, .int .u64 b, .int .u64 c, .int .u64 d, .string t, .slice EA ks.length kcp'] 35)).alloc (.cells #[.int .u64 0, .int .u64 0, .int .u64 0, .int .u64 0] 32)).alloc (.cells #[.int .u64 0, .int .u64 0, .int .u64 0, .int .u64 0] 32)).setCell ⟨w.heap.size + 1, 0, none⟩ (.int .u64 0)).cell? ⟨w.heap.size + 1, 0, none⟩ = some (.int .u64 0) := (hrs.set_ 0 _).cell 0; have ye1 : (((((w.alloc (.cells #[.int .i64 10, .int .u64 a, .int .u64 b, .int .u64 c, .int .u64 d, .string t, .slice EA ks.length kcp'] 35)).alloc (.cells #[.int .u64 0, .int .u64 0, .int .u64 0, .int .u64 0] 32)).alloc (.cells #[.int .u64 0, .int .u64 0, .int .u64 0, .int .u64 0] 32)).setCell ⟨w.heap.size + 1, 0, none⟩ (.int .u64 0)).setCell ⟨w.heap.size + 1, 1, none⟩ (.int .u64 0)).cell? ⟨w.heap.size + 1, 1, none⟩ = some (.int .u64 0) := ((hrs.set_ 0 _).set_ 1 _).cell 1; have ye2 : ((((((w.alloc (.cells #[.int .i64 10, .int .u64 a, .int .u64 b, .int .u64 c, .int .u64 d, .string t, .slice EA ks.length kcp'] 35)).alloc (.cells #[.int .u64 0, .int .u64 0, .int .u64 0, .int .u64 0] 32)).alloc (.cells #[.int .u64 0, .int .u64 0, .int .u64 0, .int .u64 0] 32)).setCell ⟨w.heap.size + 1, 0, none⟩ (.int .u64 0)).setCell ⟨w.heap.size + 1, 1, none⟩ (.int .u64 0)).setCell ⟨w.heap.size + 1, 2, none⟩ (.int .u64 0)).cell? ⟨w.heap.size + 1, 2, none⟩ = some (.int .u64 0) := (((hrs.set_ 0 _).set_ 1 _).set_ 2 _).cell 2; have ye3 : (((((((w.alloc (.cells #[.int .i64 10, .int .u64 a, .int .u64 b, .int .u64 c, .int .u64 d, .string t, .slice EA ks.length kcp'] 35)).alloc (.cells #[.int .u64 0, .int .u64 0, .int .u64 0, .int .u64 0] 32)).alloc (.cells #[.int .u64 0, .int .u64 0, .int .u64 0, .int .u64 0] 32)).setCell ⟨w.heap.size + 1, 0, none⟩ (.int .u64 0)).setCell ⟨w.heap.size + 1, 1, none⟩ (.int .u64 0)).setCell ⟨w.heap.size + 1, 2, none⟩ (.int .u64 0)).setCell ⟨w.heap.size + 1, 3, none⟩ (.int .u64 0)).cell? ⟨w.heap.size + 1, 3, none⟩ = some (.int .u64 0) := ((((hrs.set_ 0 _).set_ 1 _).set_ 2 _).set_ 3 _).cell 3
        go_enter Try.func48, Try.ntmps48
        go_wp2
        exact bodyPost_ret (v := .agg #[.int .u64 0, .int .u64 0, .int .u64 0, .int .u64 0]) (by simp [results, Try.results48, go_sem]) rfl ⟨rfl, (by repeat (first | exact Below.refl _ _ | assumption | refine Below.drew ?_ | refine below_drewN ?_ _ | refine Below.alloc ?_ (by first | omega | (simp; omega) | simp) _ | refine Below.setCell ?_ (by first | omega | (simp; omega) | simp) _))⟩
      case inr =>
        have hbox2 := HBX.out
        generalize hW0 : ((((w.alloc (.cells #[.int .i64 11, .int .u64 a, .int .u64 b, .int .u64 c, .int .u64 d, .string t, .slice EA ks.length kcp'] 35)).alloc (.cells #[.int .u64 0, .int .u64 0, .int .u64 0, .int .u64 0] 32)).alloc (.cells #[.int .u64 0, .int .u64 0, .int .u64 0, .int .u64 0] 32))) = W0 at hbox2
        subst hW0
        have yz0 : (((w.alloc (.cells #[.int .i64 11, .int .u64 a, .int .u64 b, .int .u64 c, .int .u64 d, .string t, .slice EA ks.length kcp'] 35)).alloc (.cells #[.int .u64 0, .int .u64 0, .int .u64 0, .int .u64 0] 32)).alloc (.cells #[.int .u64 0, .int .u64 0, .int .u64 0, .int .u64 0] 32)).cell? ⟨w.heap.size + 1, 0, none⟩ = some (.int .u64 0) := hrs.cell 0; have yz1 : (((w.alloc (.cells #[.int .i64 11, .int .u64 a, .int .u64 b, .int .u64 c, .int .u64 d, .string t, .slice EA ks.length kcp'] 35)).alloc (.cells #[.int .u64 0, .int .u64 0, .int .u64 0, .int .u64 0] 32)).alloc (.cells #[.int .u64 0, .int .u64 0, .int .u64 0, .int .u64 0] 32)).cell? ⟨w.heap.size + 1, 1, none⟩ = some (.int .u64 0) := hrs.cell 1; have yz2 : (((w.alloc (.cells #[.int .i64 11, .int .u64 a, .int .u64 b, .int .u64 c, .int .u64 d, .string t, .slice EA ks.length kcp'] 35)).alloc (.cells #[.int .u64 0, .int .u64 0, .int .u64 0, .int .u64 0] 32)).alloc (.cells #[.int .u64 0, .int .u64 0, .int .u64 0, .int .u64 0] 32)).cell? ⟨w.heap.size + 1, 2, none⟩ = some (.int .u64 0) := hrs.cell 2; have yz3 : (((w.alloc (.cells #[.int .i64 11, .int .u64 a, .int .u64 b, .int .u64 c, .int .u64 d, .string t, .slice EA ks.length kcp'] 35)).alloc (.cells #[.int .u64 0, .int .u64 0, .int .u64 0, .int .u64 0] 32)).alloc (.cells #[.int .u64 0, .int .u64 0, .int .u64 0, .int .u64 0] 32)).cell? ⟨w.heap.size + 1, 3, none⟩ = some (.int .u64 0) := hrs.cell 3; have yf0 := hrs.frozen 0; have yf1 := hrs.frozen 1; have yf2 := hrs.frozen 2; have yf3 := hrs.frozen 3; have ye0 : ((((w.alloc (.cells #[.int .i64 11, .int .u64 a, .int .u64 b, .int .u64 c, .int .u64 d, .string t, .slice EA ks.length kcp'] 35)).alloc (.cells #[.int .u64 0, .int .u64 0, .int .u64 0, .int .u64 0] 32)).alloc (.cells #[.int .u64 0, .int .u64 0, .int .u64 0, .int .u64 0] 32)).setCell ⟨w.heap.size + 1, 0, none⟩ (.int .u64 0)).cell? ⟨w.heap.size + 1, 0, none⟩ = some (.int .u64 0) := (hrs.set_ 0 _).cell 0; have ye1 : (((((w.alloc (.cells #[.int .i64 11, .int .u64 a, .int .u64 b, .int .u64 c, .int .u64 d, .string t, .slice EA ks.length kcp'] 35)).alloc (.cells #[.int .u64 0, .int .u64 0, .int .u64 0, .int .u64 0] 32)).alloc (.cells #[.int .u64 0, .int .u64 0, .int .u64 0, .int .u64 0] 32)).setCell ⟨w.heap.size + 1, 0, none⟩ (.int .u64 0)).setCell ⟨w.heap.size + 1, 1, none⟩ (.int .u64 0)).cell? ⟨w.heap.size + 1, 1, none⟩ = some (.int .u64 0) := ((hrs.set_ 0 _).set_ 1 _).cell 1; have ye2 : ((((((w.alloc (.cells #[.int .i64 11, .int .u64 a, .int .u64 b, .int .u64 c, .int .u64 d, .string t, .slice EA ks.length kcp'] 35)).alloc (.cells #[.int .u64 0, .int .u64 0, .int .u64 0, .int .u64 0] 32)).alloc (.cells #[.int .u64 0, .int .u64 0, .int .u64 0, .int .u64 0] 32)).setCell ⟨w.heap.size + 1, 0, none⟩ (.int .u64 0)).setCell ⟨w.heap.size + 1, 1, none⟩ (.int .u64 0)).setCell ⟨w.heap.size + 1, 2, none⟩ (.int .u64 0)).cell? ⟨w.heap.size + 1, 2, none⟩ = some (.int .u64 0) := (((hrs.set_ 0 _).set_ 1 _).set_ 2 _).cell 2; have ye3 : (((((((w.alloc (.cells #[.int .i64 11, .int .u64 a, .int .u64 b, .int .u64 c, .int .u64 d, .string t, .slice EA ks.length kcp'] 35)).alloc (.cells #[.int .u64 0, .int .u64 0, .int .u64 0, .int .u64 0] 32)).alloc (.cells #[.int .u64 0, .int .u64 0, .int .u64 0, .int .u64 0] 32)).setCell ⟨w.heap.size + 1, 0, none⟩ (.int .u64 0)).setCell ⟨w.heap.size + 1, 1, none⟩ (.int .u64 0)).setCell ⟨w.heap.size + 1, 2, none⟩ (.int .u64 0)).setCell ⟨w.heap.size + 1, 3, none⟩ (.int .u64 0)).cell? ⟨w.heap.size + 1, 3, none⟩ = some (.int .u64 0) := ((((hrs.set_ 0 _).set_ 1 _).set_ 2 _).set_ 3 _).cell 3
        go_enter Try.func48, Try.ntmps48
        go_wp2
        exact bodyPost_ret (v := .agg #[.int .u64 0, .int .u64 0, .int .u64 0, .int .u64 0]) (by simp [results, Try.results48, go_sem]) rfl ⟨rfl, (by repeat (first | exact Below.refl _ _ | assumption | refine Below.drew ?_ | refine below_drewN ?_ _ | refine Below.alloc ?_ (by first | omega | (simp; omega) | simp) _ | refine Below.setCell ?_ (by first | omega | (simp; omega) | simp) _))⟩
    · rw [if_neg h10]
      have b10 : (k == 10) = false := by rw [beq_eq_false_iff_ne]; omega
      have b11 : (k == 11) = false := by rw [beq_eq_false_iff_ne]; omega
      have hm8 : ks.length ≤ 9223372036854775807 := by unfold maxLen at hkm; omega
      have hof := fun (j : Nat) (e : Ex) (cs : List Value) (W : World) (hW : Below w.heap.size w W) (hXW : Blk W X 100 #[.slice A g.length cp, .slice FA fs.length fcp, .slice KA kn.length kcp]) (hj : ks[j]? = some e) (hE' : ExIs W w.heap.size e cs) =>
        ih e (List.mem_of_getElem? hj) cs W ((hG.on hW).more hW.size) ((hF.below hW).more hW.size) ((hK.below hW).more hW.size) hXW (hE'.keep hW.size fun _ _ => rfl) (hkids e (List.mem_of_getElem? hj)) (wks e (List.mem_of_getElem? hj))
      have hem := fun (j : Nat) (e : Ex) (cs : List Value) (W : World) (hW : Below w.heap.size w W) (hj : ks[j]? = some e) (hE' : ExIs W w.heap.size e cs) =>
        empty_any (fcp := fcp) hlen e cs W ((hG.on hW).more hW.size) ((hF.below hW).more hW.size) (hE'.keep hW.size fun _ _ => rfl) (hkids e (List.mem_of_getElem? hj))
      have HOF := Lib.hid hof
      have HEM := Lib.hid hem
      have HE := Lib.hid hE
      have HRES : Hid (firK g fs kn k (ks.drop 0) B4.no = firK g fs kn k ks B4.no) := by show _ = _; rw [List.drop_zero]
      generalize firK g fs kn k ks B4.no = res at HRES ⊢
      clear hG hF hK hE ih hlen hkn hX wa wb wc wd hfit hname hfd hkids wks hof hem hrest h10
      go_enter Try.func48, Try.ntmps48
      go_wp2
      go_loopw [47] (fun i wr => ∃ (j : Nat) (x : B4), j ≤ ks.length ∧ i = .int .i64 j ∧ Hid (firK g fs kn k (ks.drop j) x = res) ∧ FBox A FA KA g.length cp fs.length fcp kn.length kcp X #[.int .i64 k, .int .u64 a, .int .u64 b, .int .u64 c, .int .u64 d, .string t, .slice EA ks.length kcp'] x w wr) (fun i _ => ks.length - (intOf i).toNat)
      case atStart => exact ⟨0, B4.no, by omega, rfl, HRES, HBX.out⟩
      case round =>
        obtain ⟨j, x, hj, rfl, HR, h1⟩ := hrel
        have hjX := h1.ex
        by_cases hjk : j < ks.length
        · have hbw := h1.bel
          have hzw := hbw.size
          obtain ⟨ad, k', a', b', c', d', t', ks', A', cp'', rfl, hab, hej, hE', ⟨e0, e1, e2, e3, e4, e5, e6⟩⟩ := (HE.out.on hbw).kid hjk
          have hal : Below wr.heap.size wr (wr.alloc (.cells #[.int .i64 k', .int .u64 a', .int .u64 b', .int .u64 c', .int .u64 d', .string t', .slice A' ks'.length cp''] 35)) := (Below.refl _ _).alloc (Nat.le_refl _) _
          have hkr := HR.out
          rw [drop_of hej, firK] at hkr
          have hcall := fun W (hW : Below wr.heap.size wr W) (hXW : Blk W X 100 #[.slice A g.length cp, .slice FA fs.length fcp, .slice KA kn.length kcp]) => HOF.out j _ _ W (hbw.trans (hW.mono hzw)) hXW hej (hE'.on (hW.mono hzw))
          have hemp := fun W (hW : Below w.heap.size wr W) => HEM.out j _ _ W (hbw.trans hW) hej (hE'.on hW)
          unfold exCells at hcall hemp
          generalize firE g fs kn (.mk k' a' b' c' d' t' ks') = y at hcall hkr
          generalize (ofE g fs (.mk k' a' b' c' d' t' ks')).e = em at hemp hkr
          have hjn := fun W => join_b4 x y W
          have HJN := Lib.hid hjn
          have HCL := Lib.hid hcall
          have HEP := Lib.hid hemp
          have HKR := Lib.hid hkr
          have hjl : (j : Int) < (ks.length : Int) := by omega
          have h2 : FBox A FA KA g.length cp fs.length fcp kn.length kcp X #[.int .i64 k, .int .u64 a, .int .u64 b, .int .u64 c, .int .u64 d, .string t, .slice (some ad) ks.length kcp'] x w (wr.alloc (.cells #[.int .i64 k', .int .u64 a', .int .u64 b', .int .u64 c', .int .u64 d', .string t', .slice A' ks'.length cp''] 35)) := h1.alloc _
          have hkb : Blk (wr.alloc (.cells #[.int .i64 k', .int .u64 a', .int .u64 b', .int .u64 c', .int .u64 d', .string t', .slice A' ks'.length cp''] 35)) wr.heap.size 35 #[.int .i64 k', .int .u64 a', .int .u64 b', .int .u64 c', .int .u64 d', .string t', .slice A' ks'.length cp''] := blk_at rfl
          have hx6 : wr.cell? ⟨w.heap.size, 6, none⟩ = some (.slice (some ad) ks.length kcp') := h1.ex.cell 6
          clear hcall hemp hjn hkr hE' hej
          go_wp2_with fail
          refine wp_region_t (fun W => FBox A FA KA g.length cp fs.length fcp kn.length kcp X #[.int .i64 k, .int .u64 a, .int .u64 b, .int .u64 c, .int .u64 d, .string t, .slice (some ad) ks.length kcp'] x w W ∧ Below wr.heap.size wr W ∧ Blk W wr.heap.size 35 #[.int .i64 k', .int .u64 a', .int .u64 b', .int .u64 c', .int .u64 d', .string t', .slice A' ks'.length cp'']) 5 (by kernel_rfl) (by kernel_rfl) ⟨h2.drew, hal.drew, hkb.drew⟩ ?_
          simp only [List.take_succ_cons, List.take_zero]
          repeat
            (first | ((with_reducible apply QW.free rfl); · (intro W hW; obtain ⟨q1, q2, q3⟩ := hW; have o0 := q1.out.cell 0; have o1 := q1.out.cell 1; have o2 := q1.out.cell 2; have o3 := q1.out.cell 3; have r0 := q3.cell 0; have r1 := q3.cell 1; have r2 := q3.cell 2; have r3 := q3.cell 3; have r4 := q3.cell 4; have r5 := q3.cell 5; have r6 := q3.cell 6; go_simp; first | (go_at_call 48; refine (HCL.out _ q2 q1.fx).mono ?_; exact fun e w' h => ⟨h.1, q1.below h.2, q2.trans (h.2.mono q2.size), q3.below h.2 q3.lt⟩) | (go_at_call 79; refine (HJN.out _).mono ?_; exact fun e w' h => ⟨h.1, q1.below h.2, q2.trans (h.2.mono q2.size), q3.below h.2 q3.lt⟩) | rfl)) | ((with_reducible apply QW.skip rfl); · (first | exact ⟨_, _, rfl, rfl, .inl rfl⟩ | exact ⟨_, _, rfl, rfl, .inr rfl⟩)) | ((with_reducible apply QW.take rfl); (· exact ⟨_, rfl, rfl⟩); (· (intro W hW; obtain ⟨q1, q2, q3⟩ := hW; have o0 := q1.out.cell 0; have o1 := q1.out.cell 1; have o2 := q1.out.cell 2; have o3 := q1.out.cell 3; have r0 := q3.cell 0; have r1 := q3.cell 1; have r2 := q3.cell 2; have r3 := q3.cell 3; have r4 := q3.cell 4; have r5 := q3.cell 5; have r6 := q3.cell 6; go_simp; first | (go_at_call 48; refine (HCL.out _ q2 q1.fx).mono ?_; exact fun e w' h => ⟨h.1, q1.below h.2, q2.trans (h.2.mono q2.size), q3.below h.2 q3.lt⟩) | (go_at_call 79; refine (HJN.out _).mono ?_; exact fun e w' h => ⟨h.1, q1.below h.2, q2.trans (h.2.mono q2.size), q3.below h.2 q3.lt⟩) | rfl)))); (try simp only [Act.put, List.setIfInBounds_toArray, List.set_cons_zero, List.set_cons_succ])
          refine QW.nil ?_
          rintro w1 ⟨q1, q2, q3⟩
          simp only [List.drop]
          have hol := q1.out.lt
          have hol2 := q3.lt
          have hq2 := q2.size
          have h3 := q1.put (Nat.lt_of_lt_of_le hXl (Nat.le_refl _)) (B4.or x y)
          have yz0 : w1.cell? ⟨w.heap.size + 1 + 1, 0, none⟩ = some (.int .u64 x.s4.a) := q1.out.cell 0; have yz1 : w1.cell? ⟨w.heap.size + 1 + 1, 1, none⟩ = some (.int .u64 x.s4.b) := q1.out.cell 1; have yz2 : w1.cell? ⟨w.heap.size + 1 + 1, 2, none⟩ = some (.int .u64 x.s4.c) := q1.out.cell 2; have yz3 : w1.cell? ⟨w.heap.size + 1 + 1, 3, none⟩ = some (.int .u64 x.s4.d) := q1.out.cell 3; have yf0 := q1.out.frozen 0; have yf1 := q1.out.frozen 1; have yf2 := q1.out.frozen 2; have yf3 := q1.out.frozen 3; have ye0 : (w1.setCell ⟨w.heap.size + 1 + 1, 0, none⟩ (.int .u64 (B4.or x y).s4.a)).cell? ⟨w.heap.size + 1 + 1, 0, none⟩ = some (.int .u64 (B4.or x y).s4.a) := (q1.out.set_ 0 _).cell 0; have ye1 : ((w1.setCell ⟨w.heap.size + 1 + 1, 0, none⟩ (.int .u64 (B4.or x y).s4.a)).setCell ⟨w.heap.size + 1 + 1, 1, none⟩ (.int .u64 (B4.or x y).s4.b)).cell? ⟨w.heap.size + 1 + 1, 1, none⟩ = some (.int .u64 (B4.or x y).s4.b) := ((q1.out.set_ 0 _).set_ 1 _).cell 1; have ye2 : (((w1.setCell ⟨w.heap.size + 1 + 1, 0, none⟩ (.int .u64 (B4.or x y).s4.a)).setCell ⟨w.heap.size + 1 + 1, 1, none⟩ (.int .u64 (B4.or x y).s4.b)).setCell ⟨w.heap.size + 1 + 1, 2, none⟩ (.int .u64 (B4.or x y).s4.c)).cell? ⟨w.heap.size + 1 + 1, 2, none⟩ = some (.int .u64 (B4.or x y).s4.c) := (((q1.out.set_ 0 _).set_ 1 _).set_ 2 _).cell 2; have ye3 : ((((w1.setCell ⟨w.heap.size + 1 + 1, 0, none⟩ (.int .u64 (B4.or x y).s4.a)).setCell ⟨w.heap.size + 1 + 1, 1, none⟩ (.int .u64 (B4.or x y).s4.b)).setCell ⟨w.heap.size + 1 + 1, 2, none⟩ (.int .u64 (B4.or x y).s4.c)).setCell ⟨w.heap.size + 1 + 1, 3, none⟩ (.int .u64 (B4.or x y).s4.d)).cell? ⟨w.heap.size + 1 + 1, 3, none⟩ = some (.int .u64 (B4.or x y).s4.d) := ((((q1.out.set_ 0 _).set_ 1 _).set_ 2 _).set_ 3 _).cell 3
          have hkb3 := fun i v => (q3.far (p := ⟨w.heap.size + 1 + 1, i, none⟩) (show wr.heap.size ≠ w.heap.size + 1 + 1 by have := h1.out.lt; omega) v)
          have hq4 := (((q3.far (p := ⟨w.heap.size + 1 + 1, 0, none⟩) (show wr.heap.size ≠ w.heap.size + 1 + 1 by have := h1.out.lt; omega) (.int .u64 (B4.or x y).s4.a)).far (p := ⟨w.heap.size + 1 + 1, 1, none⟩) (show wr.heap.size ≠ w.heap.size + 1 + 1 by have := h1.out.lt; omega) (.int .u64 (B4.or x y).s4.b)).far (p := ⟨w.heap.size + 1 + 1, 2, none⟩) (show wr.heap.size ≠ w.heap.size + 1 + 1 by have := h1.out.lt; omega) (.int .u64 (B4.or x y).s4.c)).far (p := ⟨w.heap.size + 1 + 1, 3, none⟩) (show wr.heap.size ≠ w.heap.size + 1 + 1 by have := h1.out.lt; omega) (.int .u64 (B4.or x y).s4.d)
          have hbw4 : Below w.heap.size wr (((((w1.setCell ⟨w.heap.size + 1 + 1, 0, none⟩ (.int .u64 (B4.or x y).s4.a)).setCell ⟨w.heap.size + 1 + 1, 1, none⟩ (.int .u64 (B4.or x y).s4.b)).setCell ⟨w.heap.size + 1 + 1, 2, none⟩ (.int .u64 (B4.or x y).s4.c)).setCell ⟨w.heap.size + 1 + 1, 3, none⟩ (.int .u64 (B4.or x y).s4.d))) := by
            have := q2.mono hzw
            exact ((((this.setCell (by simp; omega) _).setCell (by simp; omega) _).setCell (by simp; omega) _).setCell (by simp; omega) _)
          have HH := Lib.hid (And.intro h3 (And.intro hbw4 hq4))
          have hXX := hXl
          clear hkb3 h3 hq4 hbw4
          by_cases hk5 : k = 5
          · subst hk5
            go_wp2_with fail
            refine wp_region_q (fun W => FBox A FA KA g.length cp fs.length fcp kn.length kcp X #[.int .i64 5, .int .u64 a, .int .u64 b, .int .u64 c, .int .u64 d, .string t, .slice (some ad) ks.length kcp'] (B4.or x y) w W ∧ Below w.heap.size wr W ∧ Blk W wr.heap.size 35 #[.int .i64 k', .int .u64 a', .int .u64 b', .int .u64 c', .int .u64 d', .string t', .slice A' ks'.length cp'']) (by kernel_rfl) (by kernel_rfl) ⟨HH.out.1.drew, HH.out.2.1.drew, HH.out.2.2.drew⟩ ?_
            repeat
              (first | ((with_reducible apply QW.free rfl); · (intro W hW; obtain ⟨q1, q2, q3⟩ := hW; have s0 := q1.fx.cell 0; have s1 := q1.fx.cell 1; have o0 := q1.ex.cell 0; have r0 := q3.cell 0; have r1 := q3.cell 1; have r2 := q3.cell 2; have r3 := q3.cell 3; have r4 := q3.cell 4; have r5 := q3.cell 5; have r6 := q3.cell 6; go_simp; first | (go_at_call 80; refine (HEP.out _ q2).mono ?_; exact fun e w' h => ⟨h.1, q1.below h.2, q2.trans (h.2.mono (Nat.le_trans hzw q2.size)), q3.below h.2 q3.lt⟩) | rfl)) | ((with_reducible apply QW.skip rfl); · (first | exact ⟨_, _, rfl, rfl, .inl rfl⟩ | exact ⟨_, _, rfl, rfl, .inr rfl⟩)) | ((with_reducible apply QW.take rfl); (· exact ⟨_, rfl, rfl⟩); (· (intro W hW; obtain ⟨q1, q2, q3⟩ := hW; have s0 := q1.fx.cell 0; have s1 := q1.fx.cell 1; have o0 := q1.ex.cell 0; have r0 := q3.cell 0; have r1 := q3.cell 1; have r2 := q3.cell 2; have r3 := q3.cell 3; have r4 := q3.cell 4; have r5 := q3.cell 5; have r6 := q3.cell 6; go_simp; first | (go_at_call 80; refine (HEP.out _ q2).mono ?_; exact fun e w' h => ⟨h.1, q1.below h.2, q2.trans (h.2.mono (Nat.le_trans hzw q2.size)), q3.below h.2 q3.lt⟩) | rfl)))); (try simp only [Act.put, List.setIfInBounds_toArray, List.set_cons_zero, List.set_cons_succ])
            refine QW.nil ?_
            rintro w5 ⟨h1, q2', q3'⟩
            have hkr := HKR.out
            cases em with
            | false =>
              rw [if_pos (by simp)] at hkr
              subst hkr
              have o0 : w5.cell? ⟨w.heap.size + 1 + 1, 0, none⟩ = some (.int .u64 (B4.or x y).s4.a) := h1.out.cell 0
              have o1 : w5.cell? ⟨w.heap.size + 1 + 1, 1, none⟩ = some (.int .u64 (B4.or x y).s4.b) := h1.out.cell 1
              have o2 : w5.cell? ⟨w.heap.size + 1 + 1, 2, none⟩ = some (.int .u64 (B4.or x y).s4.c) := h1.out.cell 2
              have o3 : w5.cell? ⟨w.heap.size + 1 + 1, 3, none⟩ = some (.int .u64 (B4.or x y).s4.d) := h1.out.cell 3
              have hrl := h1.rs.lt
              have hbw := h1.bel
              have hzw := hbw.size
              have yz0 : w5.cell? ⟨w.heap.size + 1, 0, none⟩ = some (.int .u64 0) := h1.rs.cell 0; have yz1 : w5.cell? ⟨w.heap.size + 1, 1, none⟩ = some (.int .u64 0) := h1.rs.cell 1; have yz2 : w5.cell? ⟨w.heap.size + 1, 2, none⟩ = some (.int .u64 0) := h1.rs.cell 2; have yz3 : w5.cell? ⟨w.heap.size + 1, 3, none⟩ = some (.int .u64 0) := h1.rs.cell 3; have yf0 := h1.rs.frozen 0; have yf1 := h1.rs.frozen 1; have yf2 := h1.rs.frozen 2; have yf3 := h1.rs.frozen 3; have ye0 : (w5.setCell ⟨w.heap.size + 1, 0, none⟩ (.int .u64 (B4.or x y).s4.a)).cell? ⟨w.heap.size + 1, 0, none⟩ = some (.int .u64 (B4.or x y).s4.a) := (h1.rs.set_ 0 _).cell 0; have ye1 : ((w5.setCell ⟨w.heap.size + 1, 0, none⟩ (.int .u64 (B4.or x y).s4.a)).setCell ⟨w.heap.size + 1, 1, none⟩ (.int .u64 (B4.or x y).s4.b)).cell? ⟨w.heap.size + 1, 1, none⟩ = some (.int .u64 (B4.or x y).s4.b) := ((h1.rs.set_ 0 _).set_ 1 _).cell 1; have ye2 : (((w5.setCell ⟨w.heap.size + 1, 0, none⟩ (.int .u64 (B4.or x y).s4.a)).setCell ⟨w.heap.size + 1, 1, none⟩ (.int .u64 (B4.or x y).s4.b)).setCell ⟨w.heap.size + 1, 2, none⟩ (.int .u64 (B4.or x y).s4.c)).cell? ⟨w.heap.size + 1, 2, none⟩ = some (.int .u64 (B4.or x y).s4.c) := (((h1.rs.set_ 0 _).set_ 1 _).set_ 2 _).cell 2; have ye3 : ((((w5.setCell ⟨w.heap.size + 1, 0, none⟩ (.int .u64 (B4.or x y).s4.a)).setCell ⟨w.heap.size + 1, 1, none⟩ (.int .u64 (B4.or x y).s4.b)).setCell ⟨w.heap.size + 1, 2, none⟩ (.int .u64 (B4.or x y).s4.c)).setCell ⟨w.heap.size + 1, 3, none⟩ (.int .u64 (B4.or x y).s4.d)).cell? ⟨w.heap.size + 1, 3, none⟩ = some (.int .u64 (B4.or x y).s4.d) := ((((h1.rs.set_ 0 _).set_ 1 _).set_ 2 _).set_ 3 _).cell 3
              go_wp2
              exact bodyPost_ret (v := .agg #[.int .u64 (B4.or x y).s4.a, .int .u64 (B4.or x y).s4.b, .int .u64 (B4.or x y).s4.c, .int .u64 (B4.or x y).s4.d]) (by simp [results, Try.results48, go_sem, ye0, ye1, ye2, ye3]) rfl ⟨rfl, (by repeat (first | exact Below.refl _ _ | assumption | refine Below.drew ?_ | refine below_drewN ?_ _ | refine Below.alloc ?_ (by first | omega | (simp; omega) | simp) _ | refine Below.setCell ?_ (by first | omega | (simp; omega) | simp) _))⟩
            | true =>
              rw [if_neg (by simp)] at hkr
              have HKR2 : Hid (firK g fs kn 5 (ks.drop (j + 1)) (B4.or x y) = res) := hkr
              clear hkr
              go_wp2
              go_roundw
              case rel => exact ⟨j + 1, B4.or x y, by omega, by go_num, HKR2, h1⟩
              case measure => simp [intOf]; omega
          · have hk5b : (k == 5) = false := by rw [beq_eq_false_iff_ne]; exact hk5
            go_wp2_with fail
            refine wp_region_q (fun W => FBox A FA KA g.length cp fs.length fcp kn.length kcp X #[.int .i64 k, .int .u64 a, .int .u64 b, .int .u64 c, .int .u64 d, .string t, .slice (some ad) ks.length kcp'] (B4.or x y) w W) (by kernel_rfl) (by kernel_rfl) HH.out.1.drew ?_
            repeat
              (first | ((with_reducible apply QW.free rfl); · (intro W hW; have o0 := hW.ex.cell 0; go_simp; first | rfl)) | ((with_reducible apply QW.skip rfl); · (first | exact ⟨_, _, rfl, rfl, .inl rfl⟩ | exact ⟨_, _, rfl, rfl, .inr rfl⟩)) | ((with_reducible apply QW.take rfl); (· exact ⟨_, rfl, rfl⟩); (· (intro W hW; have o0 := hW.ex.cell 0; go_simp; first | rfl)))); (try simp only [Act.put, List.setIfInBounds_toArray, List.set_cons_zero, List.set_cons_succ])
            refine QW.nil ?_
            intro w5 h1
            have hkr := HKR.out
            rw [if_neg (fun h => hk5 h.1)] at hkr
            have HKR2 : Hid (firK g fs kn k (ks.drop (j + 1)) (B4.or x y) = res) := hkr
            clear hkr
            go_wp2
            go_roundw
            case rel => exact ⟨j + 1, B4.or x y, by omega, by go_num, HKR2, h1⟩
            case measure => simp [intOf]; omega
        · obtain rfl : j = ks.length := by omega
          have hkr := HR.out
          rw [List.drop_length, firK] at hkr
          subst hkr
          have hx6 : wr.cell? ⟨w.heap.size, 6, none⟩ = some (.slice EA ks.length kcp') := h1.ex.cell 6
          clear HR
          have o0 : wr.cell? ⟨w.heap.size + 1 + 1, 0, none⟩ = some (.int .u64 (x).s4.a) := h1.out.cell 0
          have o1 : wr.cell? ⟨w.heap.size + 1 + 1, 1, none⟩ = some (.int .u64 (x).s4.b) := h1.out.cell 1
          have o2 : wr.cell? ⟨w.heap.size + 1 + 1, 2, none⟩ = some (.int .u64 (x).s4.c) := h1.out.cell 2
          have o3 : wr.cell? ⟨w.heap.size + 1 + 1, 3, none⟩ = some (.int .u64 (x).s4.d) := h1.out.cell 3
          have hrl := h1.rs.lt
          have hbw := h1.bel
          have hzw := hbw.size
          have yz0 : wr.cell? ⟨w.heap.size + 1, 0, none⟩ = some (.int .u64 0) := h1.rs.cell 0; have yz1 : wr.cell? ⟨w.heap.size + 1, 1, none⟩ = some (.int .u64 0) := h1.rs.cell 1; have yz2 : wr.cell? ⟨w.heap.size + 1, 2, none⟩ = some (.int .u64 0) := h1.rs.cell 2; have yz3 : wr.cell? ⟨w.heap.size + 1, 3, none⟩ = some (.int .u64 0) := h1.rs.cell 3; have yf0 := h1.rs.frozen 0; have yf1 := h1.rs.frozen 1; have yf2 := h1.rs.frozen 2; have yf3 := h1.rs.frozen 3; have ye0 : (wr.setCell ⟨w.heap.size + 1, 0, none⟩ (.int .u64 (x).s4.a)).cell? ⟨w.heap.size + 1, 0, none⟩ = some (.int .u64 (x).s4.a) := (h1.rs.set_ 0 _).cell 0; have ye1 : ((wr.setCell ⟨w.heap.size + 1, 0, none⟩ (.int .u64 (x).s4.a)).setCell ⟨w.heap.size + 1, 1, none⟩ (.int .u64 (x).s4.b)).cell? ⟨w.heap.size + 1, 1, none⟩ = some (.int .u64 (x).s4.b) := ((h1.rs.set_ 0 _).set_ 1 _).cell 1; have ye2 : (((wr.setCell ⟨w.heap.size + 1, 0, none⟩ (.int .u64 (x).s4.a)).setCell ⟨w.heap.size + 1, 1, none⟩ (.int .u64 (x).s4.b)).setCell ⟨w.heap.size + 1, 2, none⟩ (.int .u64 (x).s4.c)).cell? ⟨w.heap.size + 1, 2, none⟩ = some (.int .u64 (x).s4.c) := (((h1.rs.set_ 0 _).set_ 1 _).set_ 2 _).cell 2; have ye3 : ((((wr.setCell ⟨w.heap.size + 1, 0, none⟩ (.int .u64 (x).s4.a)).setCell ⟨w.heap.size + 1, 1, none⟩ (.int .u64 (x).s4.b)).setCell ⟨w.heap.size + 1, 2, none⟩ (.int .u64 (x).s4.c)).setCell ⟨w.heap.size + 1, 3, none⟩ (.int .u64 (x).s4.d)).cell? ⟨w.heap.size + 1, 3, none⟩ = some (.int .u64 (x).s4.d) := ((((h1.rs.set_ 0 _).set_ 1 _).set_ 2 _).set_ 3 _).cell 3
          go_wp2
          exact bodyPost_ret (v := .agg #[.int .u64 (x).s4.a, .int .u64 (x).s4.b, .int .u64 (x).s4.c, .int .u64 (x).s4.d]) (by simp [results, Try.results48, go_sem, ye0, ye1, ye2, ye3]) rfl ⟨rfl, (by repeat (first | exact Below.refl _ _ | assumption | refine Below.drew ?_ | refine below_drewN ?_ _ | refine Below.alloc ?_ (by first | omega | (simp; omega) | simp) _ | refine Below.setCell ?_ (by first | omega | (simp; omega) | simp) _))⟩
end Go.Proofs.Ytjmckmjngnmagaa
