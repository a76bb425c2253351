/- (*builder).walk at a rule's name: one tree more in the row. -/
import Derived.Test.YtndhbdbfjkmloaaJTopTree13
import Derived.Test.YtndhbdbfjkmloaaJTopTree11
import Derived.Deep.RegionLawGrows
import Derived.Deep.DeepCutAuto
import Derived.Lib.SmallJoins
namespace Go.Proofs.Ytndhbdbfjkmloaa
open Go.RowKit Go.Maps

theorem stepT_append_atT {P : Program} {o : Oper} {a : Act} {w : World} {K : Act → World → Prop}
    (s x : Operand) (t : TypeId) (hop : o.op = Op.call { callee := Callee.builtin Builtin.append, args := #[s, x], argTypes := #[t, t] })
    (base : Nat) (e : TypeId) (i : TypeInfo) (z : Value) (size bytes : Nat) (h1 : P.underlying t = some (.slice e)) (h2 : P.info? e = some i) (h3 : i.zero = some z) (h4 : i.size = size) (h5 : i.bytes = bytes) (h6 : z.cells.size = size) (h7 : 0 < size)
    (v : Value) (n : Nat) (xs : List Value) (hs : a.eval s = v) (hown : w.ownsRow base e size v n xs)
    (ad : Addr) (m c : Nat) (news : List Value) (hx : a.eval x = .slice (some ad) m c) (hn : news.length = m * size) (hc : ∀ j u, news[j]? = some u → w.cell? (ad.add j) = some u) (h1c : ∀ u ∈ news, u.oneCell' = true)
    (b1 : n + m ≤ maxLen) (b2 : (n + m) * bytes ≤ 140737488355328) (hb : base ≤ w.heap.size)
    (hK : ∀ v' w', w'.ownsRow base e size v' (n + m) (xs ++ news) → w.grownBy w' v.ownBlock → (v'.ownBlock = v.ownBlock ∨ v'.ownBlock = some w.heap.size) → K (a.put o.dst v') w') : stepT P o a w K := by
  obtain ⟨v', w', hrun, r1, r2, _, r3⟩ := run_append_own_at (P := P) w base t o.type e i z size bytes h1 h2 h3 h4 h5 h6 h7 v n xs hown ad m c news hn hc h1c b1 b2 hb
  unfold stepT
  simp [execOp, hop, resolve, invoke, builtin, hs, hx, hrun, Result.andThen]
  exact hK v' w' r1 r2 r3
theorem takeT_set {l : List Value} {i : Nat} (u : Value) (h : i < l.length) : (l.set i u).take (i + 1) = l.take i ++ [u] := by
  rw [List.take_add_one, List.take_set_of_le (Nat.le_refl _)]
  simp [h]
theorem take_set4 {l : List Value} {i : Nat} (u0 u1 u2 u3 : Value) (h : i + 4 ≤ l.length) : ((((l.set i u0).set (i + 1) u1).set (i + 2) u2).set (i + 3) u3).take (i + 4) = l.take i ++ [u0, u1, u2, u3] := by
  rw [show i + 4 = (i + 3) + 1 by omega, takeT_set _ (by simp; omega), show i + 3 = (i + 2) + 1 by omega, takeT_set _ (by simp; omega), show i + 2 = (i + 1) + 1 by omega, takeT_set _ (by simp; omega), takeT_set _ (by omega)]
  simp
theorem ownT_last {W : World} {base m cv : Nat} {V : Option Addr} {xs zs : List Value} (h : W.ownsRow base 38 4 (.slice V (m + 1) cv) (m + 1) (xs ++ zs)) (hx : xs.length = m * 4) : ∃ g cur, V = some ⟨g, 0, none⟩ ∧ base ≤ g ∧ Blk W g 38 cur ∧ m + 1 ≤ cv ∧ cv ≤ maxLen ∧ cur.size = cv * 4 ∧ cur.toList.take (m * 4) = xs := by
  rcases h.2 with ⟨h1, h2⟩ | ⟨g, cap, cur, hv, h3, h4, h5, h6, h7, h8⟩
  · omega
  · injection hv with e1 e2 e3
    subst e1 e3
    refine ⟨g, cur, rfl, h3, h4, h5, h6, h7, ?_⟩
    have := congrArg (List.take (m * 4)) h8
    rw [List.take_take, Nat.min_eq_left (by omega), ← hx, List.take_left' rfl, hx] at this
    exact this
theorem ownT_of {W : World} {base m cv g : Nat} {xs : List Value} {cur : Array Value} (hg : base ≤ g) (hb : Blk W g 38 cur) (h1 : m + 1 ≤ cv) (h2 : cv ≤ maxLen) (h3 : cur.size = cv * 4) {zs : List Value} (hx : (xs ++ zs).length = (m + 1) * 4) (ht : cur.toList.take ((m + 1) * 4) = xs ++ zs) :
    W.ownsRow base 38 4 (.slice (some ⟨g, 0, none⟩) (m + 1) cv) (m + 1) (xs ++ zs) := ⟨hx, .inr ⟨g, cv, cur, rfl, hg, hb, h1, h2, h3, ht⟩⟩
/-- nothing but the tree's block and this row's is other -/
structure TwoT (ob : Nat) (r : Option Nat) (w w' : World) : Prop where
  os : w'.os = w.os
  tape : w'.tape = w.tape
  output : w'.output = w.output
  size : w.heap.size ≤ w'.heap.size
  block : ∀ b, b < w.heap.size → b ≠ ob → some b ≠ r → w'.heap[b]? = w.heap[b]?
section
variable {ob : Nat} {r : Option Nat} {a w w' : World}
theorem TwoT.of_below (h : Below a.heap.size a w) : TwoT ob r a w := ⟨h.os, h.tape, h.output, h.size, fun b hb _ _ => h.block b hb⟩
theorem TwoT.grown (h : TwoT ob r a w) (hg : w.grownBy w' r) : TwoT ob r a w' := ⟨hg.os.trans h.os, hg.tape.trans h.tape, hg.output.trans h.output, Nat.le_trans h.size hg.size, fun b hb h1 h2 => (hg.block b (Nat.lt_of_lt_of_le hb h.size) h2).trans (h.block b hb h1 h2)⟩
theorem TwoT.set_ (h : TwoT ob r a w) {g : Nat} (hg : g = ob ∨ some g = r ∨ a.heap.size ≤ g) (i : Nat) (u : Value) : TwoT ob r a (w.setCell ⟨g, i, none⟩ u) :=
  ⟨h.os, h.tape, h.output, by simpa [World.setCell] using h.size, fun b hb h1 h2 => (Below.heap_setCell w ⟨g, i, none⟩ u b (by
    show b ≠ g
    rintro rfl
    rcases hg with hg | hg | hg
    · exact h1 hg
    · exact h2 hg
    · omega)).trans (h.block b hb h1 h2)⟩
end
/-- a tree in a box, made anew -/
structure TwR (c : PC) (i p q : Nat) (KS : List Tr) (w : World) (kb : Nat) (V : Option Addr) (cp : Nat) (S : Nat → Prop) (W : World) : Prop where
  box : Blk W kb 38 #[.int .i64 i, .int .i64 p, .int .i64 q, .slice V KS.length cp]
  tr : TrIs W S (.mk i p q KS) [.int .i64 i, .int .i64 p, .int .i64 q, .slice V KS.length cp]
  sep : ∀ b, S b → w.heap.size ≤ b ∧ b ≠ kb ∧ ∃ cs, Blk W b 38 cs
  lo : w.heap.size ≤ kb
  pp : PP c W
  keeps : Keeps c w W
theorem TwR.fill {c : PC} (hok : c.Ok) {i p q : Nat} {KS : List Tr} {w : World} {kb : Nat} {V : Option Addr} {cp : Nat} {S : Nat → Prop} {W : World} {u0 u1 u2 u3 : Value} (hb : Blk W kb 38 #[u0, u1, u2, u3]) (ht : TrIs W S (.mk i p q KS) [.int .i64 i, .int .i64 p, .int .i64 q, .slice V KS.length cp])
    (hs : ∀ b, S b → w.heap.size ≤ b ∧ b ≠ kb ∧ ∃ cs, Blk W b 38 cs) (hlo : w.heap.size ≤ kb) (hbase : c.base ≤ w.heap.size) (hpp : PP c W) (hk : Keeps c w W) :
    TwR c i p q KS w kb V cp S ((((W.setCell ⟨kb, 0, none⟩ (.int .i64 i)).setCell ⟨kb, 1, none⟩ (.int .i64 p)).setCell ⟨kb, 2, none⟩ (.int .i64 q)).setCell ⟨kb, 3, none⟩ (.slice V KS.length cp)) := by
  have hheap : ∀ b, b ≠ kb → ((((W.setCell ⟨kb, 0, none⟩ (.int .i64 i)).setCell ⟨kb, 1, none⟩ (.int .i64 p)).setCell ⟨kb, 2, none⟩ (.int .i64 q)).setCell ⟨kb, 3, none⟩ (.slice V KS.length cp)).heap[b]? = W.heap[b]? := fun b hb => by
    rw [Below.heap_setCell _ _ _ _ hb, Below.heap_setCell _ _ _ _ hb, Below.heap_setCell _ _ _ _ hb, Below.heap_setCell _ _ _ _ hb]
  refine ⟨(((hb.set_ 0 _).set_ 1 _).set_ 2 _).set_ 3 _, ht.keep (fun _ h => h) fun x hx => World.cell?_of_block (hheap _ (hs _ hx).2.1), fun b hb => ?_, hlo, ?_, (((hk.far (by omega) 0 _).far (by omega) 1 _).far (by omega) 2 _).far (by omega) 3 _⟩
  · obtain ⟨h1, h2, cs, h3⟩ := hs b hb
    exact ⟨h1, h2, cs, (hheap b h2).trans h3⟩
  · exact (((hpp.far hok hb (by decide) (by omega) 0 _).far hok (hb.set_ 0 _) (by decide) (by omega) 1 _).far hok ((hb.set_ 0 _).set_ 1 _) (by decide) (by omega) 2 _).far hok (((hb.set_ 0 _).set_ 1 _).set_ 2 _) (by decide) (by omega) 3 _

theorem TB.push {c : PC} {W w' : World} {base tb : Nat} {r f : Int} {ts : List Tr} {V V' : Option Addr} {cp cp' : Nat} {xs : List Value} {S0 S : Nat → Prop} {t : Tr} {cells : List Value} (h : TB c W base tb r f ts V cp xs S0) (ht : TrIs W S t cells)
    (hs : ∀ b, S b → base ≤ b ∧ some b ≠ (Value.slice V ts.length cp).ownBlock ∧ ∃ cs, Blk W b 38 cs) (hbox : Blk w' tb 38 #[.int .i64 r, .int .i64 f, .int .i64 0, .slice V' (ts.length + 1) cp'])
    (hown : w'.ownsRow base 38 4 (.slice V' (ts.length + 1) cp') (ts.length + 1) (xs ++ cells)) (h2 : TwoT tb (Value.slice V ts.length cp).ownBlock W w') (hm : Moved W (Value.slice V ts.length cp).ownBlock (Value.slice V' (ts.length + 1) cp').ownBlock) :
    TB c w' base tb r f (ts ++ [t]) V' cp' (xs ++ cells) (fun b => S0 b ∨ S b) := by
  obtain ⟨l1, l2, l3⟩ := h.lo
  have hall : ∀ b, (S0 b ∨ S b) → base ≤ b ∧ some b ≠ (Value.slice V ts.length cp).ownBlock ∧ ∃ cs, Blk W b 38 cs := fun b hb => hb.elim (fun hb => ⟨(h.sep b hb).2.1, (h.sep b hb).1, (h.sep b hb).2.2⟩) (hs b)
  have hheap : ∀ b, (S0 b ∨ S b) → w'.heap[b]? = W.heap[b]? := fun b hb => by
    obtain ⟨a1, a2, cs, a3⟩ := hall b hb
    exact h2.block b a3.lt (by omega) a2
  have hlen : (ts ++ [t]).length = ts.length + 1 := by simp
  refine ⟨⟨l1, l2, Nat.le_trans l3 h2.size⟩, by rw [hlen]; exact hbox, by rw [hlen]; exact hown, ?_, fun b hb => ?_⟩
  · exact KidsAre.snoc (ht.keep (fun b hb => .inr hb) fun p hp => World.cell?_of_block (hheap _ (.inr hp))) (h.kids.keep (fun b hb => .inl hb) fun p hp => World.cell?_of_block (hheap _ (.inl hp)))
  · obtain ⟨a1, a2, cs, a3⟩ := hall b hb
    refine ⟨?_, a1, cs, (hheap b hb).trans a3⟩
    rw [hlen]
    rcases hm with hm | ⟨k, hm, hk⟩
    · rw [hm]; exact a2
    · rw [hm]; intro e; injection e with e; have := a3.lt; omega
theorem TwoT.tk {c : PC} {tb : Nat} {r : Option Nat} {w w' : World} (h : TwoT tb r w w') : Tk c tb r w w' := ⟨h.os, h.tape, h.output, h.size, fun k h1 _ _ _ h5 h6 => h.block k h1 h5 h6⟩
theorem PP.set_tree {c : PC} (hok : c.Ok) {W : World} {g i : Nat} {cs : Array Value} (h : PP c W) (hb : Blk W g 38 cs) (hg : c.base ≤ g) (u : Value) : PP c (W.setCell ⟨g, i, none⟩ u) := h.far hok hb (by decide) hg i u

/-- what the walk reads -/
structure TwCl (c : PC) (bb : Nat) (w : World) (cs : Array Value) (W : World) : Prop where
  pp : PP c W
  bd : BdOk c bb W
  keeps : Keeps c w W
  box : Blk W w.heap.size 27 cs
theorem TwCl.past {c : PC} (hok : c.Ok) {bb : Nat} {w W W' : World} {cs : Array Value} (h : TwCl c bb w cs W) (hb : c.base ≤ w.heap.size) (hpp : PP c W') (hk : Keeps c W W') : TwCl c bb w cs W' := by
  have hP := hok.P
  have hM := hok.M
  exact ⟨hpp, h.bd.keeps hok hk, h.keeps.trans hk, hk.box h.box (by decide) (by omega) (by omega)⟩
theorem TwCl.below {c : PC} (hok : c.Ok) {bb : Nat} {w W W' : World} {cs : Array Value} (h : TwCl c bb w cs W) (hb : c.base ≤ w.heap.size) (hbl : Below W.heap.size W W') : TwCl c bb w cs W' := h.past hok hb (h.pp.below hok hbl) (Keeps.of_below hbl)
theorem TwCl.alloc {c : PC} (hok : c.Ok) {bb : Nat} {w W : World} {cs : Array Value} (h : TwCl c bb w cs W) (hb : c.base ≤ w.heap.size) (o : Obj) : TwCl c bb w cs (W.alloc o) := h.below hok hb ((Below.refl _ _).alloc (Nat.le_refl _) o)
theorem tw_end {c : PC} (hok : c.Ok) {w wc wk W : World} {base tb kb i p q cv cp0 cp' : Nat} {r0 f0 : Int} {ts KS : List Tr} {V V0 V' : Option Addr} {xs : List Value} {S S0 : Nat → Prop} (hTB : TB c wc base tb r0 f0 ts V0 cp0 xs S0) (hR : TwR c i p q KS w kb V cv S wc) (hal : Below wc.heap.size wc wk) (hb : base ≤ w.heap.size)
    (hol : ∀ k, (Value.slice V0 ts.length cp0).ownBlock = some k → k < w.heap.size) (hbox : Blk W tb 38 #[.int .i64 r0, .int .i64 f0, .int .i64 0, .slice V' (ts.length + 1) cp'])
    (hown : W.ownsRow base 38 4 (.slice V' (ts.length + 1) cp') (ts.length + 1) (xs ++ [.int .i64 i, .int .i64 p, .int .i64 q, .slice V KS.length cv])) (h2 : TwoT tb (Value.slice V0 ts.length cp0).ownBlock wk W)
    (hm : Moved wk (Value.slice V0 ts.length cp0).ownBlock (Value.slice V' (ts.length + 1) cp').ownBlock) (hpp : PP c W) :
    TWalkQ c base tb r0 f0 (ts ++ [.mk i p q KS]) (Value.slice V0 ts.length cp0).ownBlock q w (.returned (.int .i64 q)) W := by
  have hTk := hTB.keeps hok (Keeps.of_below hal)
  have hsz := hR.keeps.size
  have hsz2 := hal.size
  have h3 := hTk.push (t := .mk i p q KS) (cells := [.int .i64 i, .int .i64 p, .int .i64 q, .slice V KS.length cv]) (S := S) (hR.tr.keep (fun _ h => h) fun x hx => by obtain ⟨_, _, cs, hcs⟩ := hR.sep _ hx; exact hal.cell hcs.lt)
    (fun b hb => by
      obtain ⟨h1, h2, cs, h3⟩ := hR.sep b hb
      exact ⟨by omega, fun e => by have := hol b e.symm; omega, cs, h3.below hal h3.lt⟩) hbox hown h2 hm
  have hlen : (ts ++ [Tr.mk i p q KS]).length = ts.length + 1 := by simp
  refine ⟨rfl, hpp, _, ⟨V', cp', _, _, rfl, h3⟩, ?_, ?_⟩
  · rw [hlen]
    rcases hm with hm | ⟨k, hm, hk⟩
    · exact .inl hm
    · exact .inr ⟨k, hm, by omega⟩
  · exact ((Tk.of_keeps hR.keeps).trans (Tk.of_keeps (Keeps.of_below hal)) (Moved.refl _ _)).trans h2.tk (Moved.refl _ _)

def zeroT : List Value := [.int .i64 0, .int .i64 0, .int .i64 0, .slice none 0 0]
theorem tree_info : (Try.prog.info? 38).map (fun i => (i.zero, i.size, i.bytes)) = some (some (.agg #[.int .i64 0, .int .i64 0, .int .i64 0, .slice none 0 0]), 4, 48) := by kernel_rfl

set_option maxRecDepth 100000 in
set_option maxHeartbeats 4000000 in
theorem twalk_ref {c : PC} (F : c.Fit) {n : Nat} (hU : DoesTRule c n) {a b d1 d2 : Int} {t : ByteArray} {A : Option Addr} {m cp i p q bb base tb : Nat} {r : Rl} {r0 f0 : Int} {ts : List Tr} {own : Option Nat} {w : World} (hi : fnd c.g t.data.toList = (i : Int)) (hr : c.g[i]? = some r)
    (hev : evJ c.g c.s.data.toList n (.ex r.2) p = some (some q)) (hp : p ≤ c.s.data.toList.length) (hpp : PP c w) (hbd : BdOk c bb w) (hT : TBx c w base tb r0 f0 ts own) (hl : ts.length + 1 ≤ 15000000) :
    Calls Try.prog 36 #[.pointer (some ⟨bb, 0, none⟩), .agg #[.int .i64 4, .int .u64 a, .int .u64 b, .int .u64 d1, .int .u64 d2, .string t, .slice A m cp], .int .i64 p, .pointer (some ⟨tb, 3, none⟩)] w (TWalkQ c base tb r0 f0 (ts ++ [.mk i p q (trJ c.g c.s.data.toList n (.ex r.2) p)]) own q w) := by
  have hok := F.ok
  have hP := hok.P
  have hM := hok.M
  have hBb := hok.Bb
  have hlen := hok.len
  have hsz := hpp.size
  have hlo := hT.lo
  obtain ⟨i0, hi0, hz0, hz1, hz2⟩ := info_parts tree_info
  have HFD : Hid (∀ W, PP c W → Calls Try.prog 51 #[.agg #[.slice c.A c.g.length c.cp], .string t] W fun e w' => e = .returned (.int .i64 i) ∧ Below W.heap.size W w') := fun W hW => by
    have := find_any (hW.gram.more (by have := hW.size; omega)) t
    rw [hi] at this
    exact this
  have HRU : Hid (∀ W, PP c W → BdOk c bb W → Calls Try.prog 22 #[.pointer (some ⟨bb, 0, none⟩), .int .i64 i, .int .i64 p] W (TRuleQ c i p q (trJ c.g c.s.data.toList n (.ex r.2) p) W)) := fun W hW hB => hU i p q r bb W hr hev hp hW hB
  generalize trJ c.g c.s.data.toList n (.ex r.2) p = KS at HRU ⊢
  generalize hQ : TWalkQ c base tb r0 f0 (ts ++ [.mk i p q KS]) own q w = Q
  have HQ := Lib.hid hQ
  have HLEN := Lib.hid hlen
  have hal : Below w.heap.size w (w.alloc (.cells #[.int .i64 4, .int .u64 a, .int .u64 b, .int .u64 d1, .int .u64 d2, .string t, .slice A m cp] 27)) := (by repeat (first | exact Below.refl _ _ | assumption | refine Below.drew ?_ | refine below_drewN ?_ _ | refine Below.alloc ?_ (by first | omega | (simp; omega) | simp) _ | refine Below.setCell ?_ (by first | omega | (simp; omega) | simp) _))
  have hxb : Blk (w.alloc (.cells #[.int .i64 4, .int .u64 a, .int .u64 b, .int .u64 d1, .int .u64 d2, .string t, .slice A m cp] 27)) w.heap.size 27 #[.int .i64 4, .int .u64 a, .int .u64 b, .int .u64 d1, .int .u64 d2, .string t, .slice A m cp] := blk_at rfl
  have HCL : Hid (TwCl c bb w #[.int .i64 4, .int .u64 a, .int .u64 b, .int .u64 d1, .int .u64 d2, .string t, .slice A m cp] (w.alloc (.cells #[.int .i64 4, .int .u64 a, .int .u64 b, .int .u64 d1, .int .u64 d2, .string t, .slice A m cp] 27))) := ⟨hpp.below hok hal, hbd.keeps hok (Keeps.of_below hal), Keeps.of_below hal, hxb⟩
  have HT := Lib.hid hT
  clear hU hi hr hev hpp hbd hT hlen hal hxb hQ
  go_enter Try.func36, Try.ntmps36
  go_upto_region 7 with fail
  go_cut [9] (fun s9 wx => ∃ (kb : Nat) (V : Option Addr) (cv : Nat) (S : Nat → Prop), s9 = .pointer (some ⟨kb, 0, none⟩) ∧ TwR c i p q KS w kb V cv S wx)
  case first =>
    have hC := HCL.out
    generalize (w.alloc (.cells #[.int .i64 4, .int .u64 a, .int .u64 b, .int .u64 d1, .int .u64 d2, .string t, .slice A m cp] 27)) = w0 at hC ⊢
    refine wp_region_l (TwCl c bb w #[.int .i64 4, .int .u64 a, .int .u64 b, .int .u64 d1, .int .u64 d2, .string t, .slice A m cp]) (fun i => i == 12 || i == 14) (by kernel_rfl) ?_
    have hC : TwCl c bb w #[.int .i64 4, .int .u64 a, .int .u64 b, .int .u64 d1, .int .u64 d2, .string t, .slice A m cp] w0.drew := hC.below hok hsz (Below.refl _ _).drew
    generalize w0.drew = wd at hC ⊢
    clear HCL
    apply L.rdt (i := 0) rfl (by kernel_rfl) hC rfl
    · intro W hW
      skip
      unfold readW
      go_simp
      first | rfl | exact ⟨rfl, rfl⟩
    first | simp only [Act.put, List.setIfInBounds_toArray, List.set_cons_succ, List.set_cons_zero] | skip
    apply L.rdt (i := 1) rfl (by kernel_rfl) hC rfl
    · intro W hW
      skip
      unfold readW
      go_simp
      first | rfl | exact ⟨rfl, rfl⟩
    first | simp only [Act.put, List.setIfInBounds_toArray, List.set_cons_succ, List.set_cons_zero] | skip
    apply L.rdt (i := 2) rfl (by kernel_rfl) hC rfl
    · intro W hW
      skip
      unfold readW
      go_simp
      first | rfl | exact ⟨rfl, rfl⟩
    first | simp only [Act.put, List.setIfInBounds_toArray, List.set_cons_succ, List.set_cons_zero] | skip
    apply L.rdt (i := 3) rfl (by kernel_rfl) hC rfl
    · intro W hW
      skip
      unfold readW
      go_simp
      first | rfl | exact ⟨rfl, rfl⟩
    first | simp only [Act.put, List.setIfInBounds_toArray, List.set_cons_succ, List.set_cons_zero] | skip
    apply L.rdt (i := 4) rfl (by kernel_rfl) hC rfl
    · intro W hW
      have n0 := hW.bd.c0
      unfold readW
      go_simp
      first | rfl | exact ⟨rfl, rfl⟩
    first | simp only [Act.put, List.setIfInBounds_toArray, List.set_cons_succ, List.set_cons_zero] | skip
    apply L.rdt (i := 5) rfl (by kernel_rfl) hC rfl
    · intro W hW
      skip
      unfold readW
      go_simp
      first | rfl | exact ⟨rfl, rfl⟩
    first | simp only [Act.put, List.setIfInBounds_toArray, List.set_cons_succ, List.set_cons_zero] | skip
    apply L.rdt (i := 6) rfl (by kernel_rfl) hC rfl
    · intro W hW
      skip
      unfold readW
      go_simp
      first | rfl | exact ⟨rfl, rfl⟩
    first | simp only [Act.put, List.setIfInBounds_toArray, List.set_cons_succ, List.set_cons_zero] | skip
    apply L.rdt (i := 7) rfl (by kernel_rfl) hC rfl
    · intro W hW
      have n0 := hW.pp.c0; rw [HLEN.out] at n0
      unfold readW
      go_simp
      first | rfl | exact ⟨rfl, rfl⟩
    first | simp only [Act.put, List.setIfInBounds_toArray, List.set_cons_succ, List.set_cons_zero] | skip
    apply L.rdt (i := 8) rfl (by kernel_rfl) hC rfl
    · intro W hW
      skip
      unfold readW
      go_simp
      first | rfl | exact ⟨rfl, rfl⟩
    first | simp only [Act.put, List.setIfInBounds_toArray, List.set_cons_succ, List.set_cons_zero] | skip
    apply L.rdt (i := 9) rfl (by kernel_rfl) hC rfl
    · intro W hW
      have n0 := hW.box.cell 5
      unfold readW
      go_simp
      first | rfl | exact ⟨rfl, rfl⟩
    first | simp only [Act.put, List.setIfInBounds_toArray, List.set_cons_succ, List.set_cons_zero] | skip
    apply L.rdt (i := 11) rfl (by kernel_rfl) hC rfl
    · intro W hW
      skip
      unfold readW
      go_simp
      first | rfl | exact ⟨rfl, rfl⟩
    first | simp only [Act.put, List.setIfInBounds_toArray, List.set_cons_succ, List.set_cons_zero] | skip
    have HC := Lib.hid hC
    clear hC
    apply L.two (i := 10) (k := 13) rfl rfl (by kernel_rfl) rfl rfl
    · unfold stepT
      go_simp
      go_at_call 51
      refine (HFD.out _ HC.out.pp).mono ?_
      rintro e w1 ⟨rfl, hb1⟩
      have HC1 := Lib.hid (HC.out.below hok hsz hb1)
      clear hb1 HC
      refine ⟨_, rfl, HC1.out, ?_⟩
      first | simp only [Act.put, List.setIfInBounds_toArray, List.set_cons_succ, List.set_cons_zero] | skip
      apply L.two (i := 12) (k := 13) rfl rfl (by kernel_rfl) rfl rfl
      · unfold stepT
        go_simp
        go_at_call 22
        refine (HRU.out _ HC1.out.pp HC1.out.bd).mono ?_
        rintro e w2 ⟨hp2, hk2, V, cv, S, rfl, htr, hsp⟩
        have HC2 := Lib.hid (HC1.out.past hok hsz hp2 hk2)
        have hlo2 : w.heap.size ≤ w1.heap.size := HC1.out.keeps.size
        have HB3 : Hid (Blk (w2.alloc (.cells #[.int .i64 0, .int .i64 0, .int .i64 0, .slice none 0 0] 38)) w2.heap.size 38 #[.int .i64 0, .int .i64 0, .int .i64 0, .slice none 0 0]) := blk_at rfl
        have HC3 := Lib.hid (HC2.out.alloc hok hsz (.cells #[.int .i64 0, .int .i64 0, .int .i64 0, .slice none 0 0] 38))
        have HT3 := Lib.hid (htr.keep (w' := w2.alloc (.cells #[.int .i64 0, .int .i64 0, .int .i64 0, .slice none 0 0] 38)) (S' := S) (fun _ h => h) fun x hx => by obtain ⟨_, cs, hcs⟩ := hsp _ hx; exact World.cell?_alloc_lt _ _ _ hcs.lt)
        have HS3 : Hid (∀ b, S b → w.heap.size ≤ b ∧ b ≠ w2.heap.size ∧ ∃ cs, Blk (w2.alloc (.cells #[.int .i64 0, .int .i64 0, .int .i64 0, .slice none 0 0] 38)) b 38 cs) := fun b hb => by
          obtain ⟨h1, cs, h2⟩ := hsp b hb
          exact ⟨by omega, Nat.ne_of_lt h2.lt, cs, h2.alloc _⟩
        have hlo3 : w.heap.size ≤ w2.heap.size := HC2.out.keeps.size
        clear hp2 hk2 htr hsp HC1
        refine ⟨_, rfl, ?_⟩
        first | simp only [Act.put, List.setIfInBounds_toArray, List.set_cons_succ, List.set_cons_zero] | skip
        apply L.one (i := 13) rfl (by kernel_rfl) rfl
        unfold stepT
        go_simp
        refine ⟨HC3.out, ?_⟩
        first | simp only [Act.put, List.setIfInBounds_toArray, List.set_cons_succ, List.set_cons_zero] | skip
        have hb3 := HB3.out
        generalize hw3 : (w2.alloc (.cells #[.int .i64 0, .int .i64 0, .int .i64 0, .slice none 0 0] 38)) = w3 at hb3 HC3 HT3 HS3 ⊢
        generalize hkb : w2.heap.size = kb at hb3 HS3 hlo3 ⊢
        clear hw3 hkb HB3
        have z0 : w3.cell? ⟨kb, 0, none⟩ = some (.int .i64 0) := hb3.cell 0
        have z1 : w3.cell? ⟨kb, 1, none⟩ = some (.int .i64 0) := hb3.cell 1
        have z2 : w3.cell? ⟨kb, 2, none⟩ = some (.int .i64 0) := hb3.cell 2
        have z3 : w3.cell? ⟨kb, 3, none⟩ = some (.slice none 0 0) := hb3.cell 3
        have f0 := hb3.frozen 0
        have f1 := hb3.frozen 1
        have f2 := hb3.frozen 2
        have f3 := hb3.frozen 3
        have HF := Lib.hid (TwR.fill hok hb3 HT3.out HS3.out hlo3 hsz HC3.out.pp HC3.out.keeps)
        clear hb3 HC3 HT3 HS3
        apply L.one (i := 14) rfl (by kernel_rfl) rfl
        unfold stepT
        go_simp
        refine L.done (by kernel_rfl) ?_
        go_wp2_with fail
        go_meet
        exact ⟨kb, V, cv, S, rfl, HF.out⟩
      · unfold stepT
        go_simp
        have HB2 : Hid (Blk (w1.alloc (.cells #[.int .i64 0, .int .i64 0, .int .i64 0, .slice none 0 0] 38)) w1.heap.size 38 #[.int .i64 0, .int .i64 0, .int .i64 0, .slice none 0 0]) := blk_at rfl
        have HC2 := Lib.hid (HC1.out.alloc hok hsz (.cells #[.int .i64 0, .int .i64 0, .int .i64 0, .slice none 0 0] 38))
        have hlo2 : w.heap.size ≤ w1.heap.size := HC1.out.keeps.size
        refine ⟨HC2.out, ?_⟩
        first | simp only [Act.put, List.setIfInBounds_toArray, List.set_cons_succ, List.set_cons_zero] | skip
        generalize hw2 : (w1.alloc (.cells #[.int .i64 0, .int .i64 0, .int .i64 0, .slice none 0 0] 38)) = w2 at HB2 HC2 ⊢
        generalize hkb : w1.heap.size = kb at HB2 hlo2 ⊢
        have hkl : kb < w2.heap.size := HB2.out.lt
        clear hw2 hkb
        apply L.one (i := 12) rfl (by kernel_rfl) rfl
        unfold stepT
        go_simp
        go_at_call 22
        refine (HRU.out _ HC2.out.pp HC2.out.bd).mono ?_
        rintro e w3 ⟨hp2, hk2, V, cv, S, rfl, htr, hsp⟩
        have HC3 := Lib.hid (HC2.out.past hok hsz hp2 hk2)
        have hb3 := hk2.box HB2.out (by decide) (by omega) (by omega)
        have HT3 := Lib.hid htr
        have HS3 : Hid (∀ b, S b → w.heap.size ≤ b ∧ b ≠ kb ∧ ∃ cs, Blk w3 b 38 cs) := fun b hb => by
          obtain ⟨h1, cs, h2⟩ := hsp b hb
          exact ⟨by omega, by omega, cs, h2⟩
        have hlo3 := hlo2
        clear hp2 hk2 htr hsp HC2 HB2 hlo2
        refine ⟨_, rfl, ?_⟩
        first | simp only [Act.put, List.setIfInBounds_toArray, List.set_cons_succ, List.set_cons_zero] | skip
        have z0 : w3.cell? ⟨kb, 0, none⟩ = some (.int .i64 0) := hb3.cell 0
        have z1 : w3.cell? ⟨kb, 1, none⟩ = some (.int .i64 0) := hb3.cell 1
        have z2 : w3.cell? ⟨kb, 2, none⟩ = some (.int .i64 0) := hb3.cell 2
        have z3 : w3.cell? ⟨kb, 3, none⟩ = some (.slice none 0 0) := hb3.cell 3
        have f0 := hb3.frozen 0
        have f1 := hb3.frozen 1
        have f2 := hb3.frozen 2
        have f3 := hb3.frozen 3
        have HF := Lib.hid (TwR.fill hok hb3 HT3.out HS3.out hlo3 hsz HC3.out.pp HC3.out.keeps)
        clear hb3 HC3 HT3 HS3
        apply L.one (i := 14) rfl (by kernel_rfl) rfl
        unfold stepT
        go_simp
        refine L.done (by kernel_rfl) ?_
        go_wp2_with fail
        go_meet
        exact ⟨kb, V, cv, S, rfl, HF.out⟩
    · unfold stepT
      go_simp
      have HB2 : Hid (Blk (wd.alloc (.cells #[.int .i64 0, .int .i64 0, .int .i64 0, .slice none 0 0] 38)) wd.heap.size 38 #[.int .i64 0, .int .i64 0, .int .i64 0, .slice none 0 0]) := blk_at rfl
      have HC2 := Lib.hid (HC.out.alloc hok hsz (.cells #[.int .i64 0, .int .i64 0, .int .i64 0, .slice none 0 0] 38))
      have hlo2 : w.heap.size ≤ wd.heap.size := HC.out.keeps.size
      refine ⟨HC2.out, ?_⟩
      first | simp only [Act.put, List.setIfInBounds_toArray, List.set_cons_succ, List.set_cons_zero] | skip
      generalize hw2 : (wd.alloc (.cells #[.int .i64 0, .int .i64 0, .int .i64 0, .slice none 0 0] 38)) = w2 at HB2 HC2 ⊢
      generalize hkb : wd.heap.size = kb at HB2 hlo2 ⊢
      have hkl : kb < w2.heap.size := HB2.out.lt
      clear hw2 hkb
      apply L.one (i := 10) rfl (by kernel_rfl) rfl
      unfold stepT
      go_simp
      go_at_call 51
      refine (HFD.out _ HC2.out.pp).mono ?_
      rintro e w5 ⟨rfl, hb1⟩
      replace HB2 := Lib.hid (HB2.out.below hb1 hkl)
      replace hkl : kb < w5.heap.size := by have := hb1.size; omega
      replace HC2 := Lib.hid (HC2.out.below hok hsz hb1)
      clear hb1 HC
      refine ⟨_, rfl, HC2.out, ?_⟩
      first | simp only [Act.put, List.setIfInBounds_toArray, List.set_cons_succ, List.set_cons_zero] | skip
      apply L.one (i := 12) rfl (by kernel_rfl) rfl
      unfold stepT
      go_simp
      go_at_call 22
      refine (HRU.out _ HC2.out.pp HC2.out.bd).mono ?_
      rintro e w3 ⟨hp2, hk2, V, cv, S, rfl, htr, hsp⟩
      have HC3 := Lib.hid (HC2.out.past hok hsz hp2 hk2)
      have hb3 := hk2.box HB2.out (by decide) (by omega) (by omega)
      have HT3 := Lib.hid htr
      have HS3 : Hid (∀ b, S b → w.heap.size ≤ b ∧ b ≠ kb ∧ ∃ cs, Blk w3 b 38 cs) := fun b hb => by
        obtain ⟨h1, cs, h2⟩ := hsp b hb
        exact ⟨by omega, by omega, cs, h2⟩
      have hlo3 := hlo2
      clear hp2 hk2 htr hsp HC2 HB2 hlo2
      refine ⟨_, rfl, ?_⟩
      first | simp only [Act.put, List.setIfInBounds_toArray, List.set_cons_succ, List.set_cons_zero] | skip
      have z0 : w3.cell? ⟨kb, 0, none⟩ = some (.int .i64 0) := hb3.cell 0
      have z1 : w3.cell? ⟨kb, 1, none⟩ = some (.int .i64 0) := hb3.cell 1
      have z2 : w3.cell? ⟨kb, 2, none⟩ = some (.int .i64 0) := hb3.cell 2
      have z3 : w3.cell? ⟨kb, 3, none⟩ = some (.slice none 0 0) := hb3.cell 3
      have f0 := hb3.frozen 0
      have f1 := hb3.frozen 1
      have f2 := hb3.frozen 2
      have f3 := hb3.frozen 3
      have HF := Lib.hid (TwR.fill hok hb3 HT3.out HS3.out hlo3 hsz HC3.out.pp HC3.out.keeps)
      clear hb3 HC3 HT3 HS3
      apply L.one (i := 14) rfl (by kernel_rfl) rfl
      unfold stepT
      go_simp
      refine L.done (by kernel_rfl) ?_
      go_wp2_with fail
      go_meet
      exact ⟨kb, V, cv, S, rfl, HF.out⟩
  case rest =>
  obtain ⟨kb, V, cv, S, rfl, hR⟩ := hcut
  have hTw := HT.out.keeps hok hR.keeps
  have hol := HT.out.own_lt
  obtain ⟨V0, cp0, xs, S0, rfl, hTB⟩ := hTw
  have hkbl : w.heap.size ≤ kb := hR.lo
  have hpp := hR.pp
  have hown := hTB.own
  have hxl := hown.1
  have hkb2 : some kb ≠ (Value.slice V0 ts.length cp0).ownBlock := fun e => by have h2 := hol kb e.symm; omega
  have hkt : kb ≠ tb := by omega
  have hton : some tb ≠ (Value.slice V0 ts.length cp0).ownBlock := fun e => by have h2 := hol tb e.symm; omega
  have HEND : Hid (∀ wk W V' cp', Below wc.heap.size wc wk → Blk W tb 38 #[.int .i64 r0, .int .i64 f0, .int .i64 0, .slice V' (ts.length + 1) cp'] → W.ownsRow base 38 4 (.slice V' (ts.length + 1) cp') (ts.length + 1) (xs ++ [.int .i64 i, .int .i64 p, .int .i64 q, .slice V KS.length cv]) → TwoT tb (Value.slice V0 ts.length cp0).ownBlock wk W →
      Moved wk (Value.slice V0 ts.length cp0).ownBlock (Value.slice V' (ts.length + 1) cp').ownBlock → PP c W → Q (.returned (.int .i64 q)) W) := fun wk W V' cp' h1 h2 h3 h4 h5 h6 => HQ.out ▸ tw_end hok hTB hR h1 hlo.2.2 (fun k hk => (hol k hk).2) h2 h3 h4 h5 h6
  clear HQ
  have hbx : Blk wc tb 38 #[.int .i64 r0, .int .i64 f0, .int .i64 0, .slice V0 ts.length cp0] := hTB.box
  have hkx := hR.box
  have hszc : w.heap.size ≤ wc.heap.size := hR.keeps.size
  have hkx2 := hkx.lt
  generalize ts.length = m0 at hown hbx hl hxl hkb2 hton HEND ⊢
  clear hTB hR HFD HRU HT HCL hol
  generalize KS.length = kn at hkx HEND
  have HXL := Lib.hid hxl
  clear hxl
  have hbz : base ≤ wc.heap.size := by omega
  go_upto_region 8 with fail
  refine wp_region_l (fun W => Blk W tb 38 #[.int .i64 r0, .int .i64 f0, .int .i64 0, .slice V0 m0 cp0] ∧ Blk W kb 38 #[.int .i64 i, .int .i64 p, .int .i64 q, .slice V kn cv]) (fun i => i == 7 || i == 8 || i == 9 || i == 10) (by kernel_rfl) ?_
  have hC : Blk wc.drew tb 38 #[.int .i64 r0, .int .i64 f0, .int .i64 0, .slice V0 m0 cp0] ∧ Blk wc.drew kb 38 #[.int .i64 i, .int .i64 p, .int .i64 q, .slice V kn cv] := ⟨hbx.drew, hkx.drew⟩
  have hD : Below wc.heap.size wc wc.drew := (Below.refl _ _).drew
  have hO : wc.drew.ownsRow base 38 4 (.slice V0 m0 cp0) m0 xs := own_below hown hD
  have hpd := hpp.drew
  have hsz1 : wc.heap.size ≤ wc.drew.heap.size := Nat.le_refl _
  generalize wc.drew = wd at hC hD hO hpd hsz1 ⊢
  clear hbx hkx hown hpp
  apply L.rd (i := 0) rfl (by kernel_rfl) hC rfl
  · intro W hW
    skip
    unfold readW
    go_simp
    first | rfl | exact ⟨rfl, rfl⟩
  first | simp only [Act.put, List.setIfInBounds_toArray, List.set_cons_succ, List.set_cons_zero] | skip
  apply L.rd (i := 1) rfl (by kernel_rfl) hC rfl
  · intro W hW
    skip
    unfold readW
    go_simp
    first | rfl | exact ⟨rfl, rfl⟩
  first | simp only [Act.put, List.setIfInBounds_toArray, List.set_cons_succ, List.set_cons_zero] | skip
  apply L.rd (i := 2) rfl (by kernel_rfl) hC rfl
  · intro W hW
    have n0 := hW.1.cell 3
    unfold readW
    go_simp
    first | rfl | exact ⟨rfl, rfl⟩
  first | simp only [Act.put, List.setIfInBounds_toArray, List.set_cons_succ, List.set_cons_zero] | skip
  apply L.rd (i := 3) rfl (by kernel_rfl) hC rfl
  · intro W hW
    have n0 := hW.2.cell 0; have n1 := hW.2.cell 1; have n2 := hW.2.cell 2; have n3 := hW.2.cell 3
    unfold readW
    go_simp
    first | rfl | exact ⟨rfl, rfl⟩
  first | simp only [Act.put, List.setIfInBounds_toArray, List.set_cons_succ, List.set_cons_zero] | skip
  apply L.rd (i := 4) rfl (by kernel_rfl) hC rfl
  · intro W hW
    skip
    unfold readW
    go_simp
    first | rfl | exact ⟨rfl, rfl⟩
  first | simp only [Act.put, List.setIfInBounds_toArray, List.set_cons_succ, List.set_cons_zero] | skip
  apply L.one (i := 5) rfl (by kernel_rfl) rfl
  unfold stepT
  go_simp
  have hzb : Blk (wd.alloc (.cells #[.int .i64 0, .int .i64 0, .int .i64 0, .slice none 0 0] 38)) wd.heap.size 38 #[.int .i64 0, .int .i64 0, .int .i64 0, .slice none 0 0] := blk_at rfl
  have hC : Blk (wd.alloc (.cells #[.int .i64 0, .int .i64 0, .int .i64 0, .slice none 0 0] 38)) tb 38 #[.int .i64 r0, .int .i64 f0, .int .i64 0, .slice V0 m0 cp0] ∧ Blk (wd.alloc (.cells #[.int .i64 0, .int .i64 0, .int .i64 0, .slice none 0 0] 38)) kb 38 #[.int .i64 i, .int .i64 p, .int .i64 q, .slice V kn cv] := ⟨hC.1.alloc _, hC.2.alloc _⟩
  have hO := hO.alloc (.cells #[.int .i64 0, .int .i64 0, .int .i64 0, .slice none 0 0] 38)
  have hD := hD.alloc hsz1 (.cells #[.int .i64 0, .int .i64 0, .int .i64 0, .slice none 0 0] 38)
  have hpd := hpd.below hok ((Below.refl _ _).alloc (Nat.le_refl _) (.cells #[.int .i64 0, .int .i64 0, .int .i64 0, .slice none 0 0] 38))
  generalize (wd.alloc (.cells #[.int .i64 0, .int .i64 0, .int .i64 0, .slice none 0 0] 38)) = wk at hC hzb hO hD hpd ⊢
  generalize wd.heap.size = nb at hzb ⊢
  refine ⟨hC, ?_⟩
  apply L.one (i := 6) rfl (by kernel_rfl) rfl
  refine stepT_append_atT (.tmp 44) (.tmp 47) 36 rfl base 38 i0 _ 4 48 Try.underlying36 hi0 hz0 hz1 hz2 rfl (by decide) (.slice V0 m0 cp0) m0 xs (by simp [Act.eval]) hO ⟨nb, 0, none⟩ 1 1 zeroT (by simp [Act.eval]) rfl (fun i u hu => by rw [cell_add]; exact (hzb.cell i).trans (by rw [List.getElem?_toArray]; exact hu)) (by decide) (by unfold maxLen; omega) (by omega) (by have := hD.size; omega) ?_
  intro v' w3 hown3 hgr hat
  obtain ⟨V3, c3, rfl⟩ := own_form hown3
  have hC : Blk w3 tb 38 #[.int .i64 r0, .int .i64 f0, .int .i64 0, .slice V0 m0 cp0] ∧ Blk w3 kb 38 #[.int .i64 i, .int .i64 p, .int .i64 q, .slice V kn cv] := ⟨hC.1.grown hgr hton, hC.2.grown hgr hkb2⟩
  have hT3 : TwoT tb (Value.slice V0 m0 cp0).ownBlock wk w3 := (TwoT.of_below (Below.refl _ _)).grown hgr
  have hp3 := hpd.grown hok (by decide) hO (by omega) hgr
  obtain ⟨g, cur, rfl, hgb, hcur, hc1, hc2, hc3, htk⟩ := ownT_last hown3 HXL.out
  have hwkz := hD.size
  have hgw : g = tb ∨ some g = (Value.slice V0 m0 cp0).ownBlock ∨ wk.heap.size ≤ g := by
    rcases hat with h1 | h1
    · exact .inr (.inl h1)
    · have h2 : g = wk.heap.size := by simpa [Value.ownBlock] using h1
      exact .inr (.inr (by omega))
  have hgk : g ≠ kb := by
    rcases hgw with h1 | h1 | h1
    · omega
    · rintro rfl; exact hkb2 h1
    · omega
  have hmv : Moved wk (Value.slice V0 m0 cp0).ownBlock (Value.slice (some (Addr.mk g 0 none)) (m0 + 1) c3).ownBlock := by
    rcases hat with h1 | h1
    · exact .inl h1
    · exact .inr ⟨_, h1, Nat.le_refl _⟩
  refine ⟨fun _ => hC, ?_⟩
  first | simp only [Act.put, List.setIfInBounds_toArray, List.set_cons_succ, List.set_cons_zero] | skip
  have hlt : (m0 : Int) < (m0 : Int) + 1 := by omega
  apply L.rdl (i := 7) rfl (by kernel_rfl) rfl
  · intro W
    unfold readW
    go_simp
    first | rfl | exact ⟨rfl, rfl⟩
  first | simp only [Act.put, List.setIfInBounds_toArray, List.set_cons_succ, List.set_cons_zero] | skip
  apply L.rdl (i := 9) rfl (by kernel_rfl) rfl
  · intro W
    unfold readW
    go_simp
    first | rfl | exact ⟨rfl, rfl⟩
  first | simp only [Act.put, List.setIfInBounds_toArray, List.set_cons_succ, List.set_cons_zero] | skip
  have hgo : g ≠ tb := by omega
  have hgz : ∀ i, i < 4 → ∃ u0, cur[m0 * 4 + i]? = some u0 := fun i hi => ⟨_, Array.getElem?_eq_getElem (by rw [hc3]; omega)⟩
  obtain ⟨o0, g0⟩ := hgz 0 (by omega)
  obtain ⟨o1, g1⟩ := hgz 1 (by omega)
  obtain ⟨o2, g2⟩ := hgz 2 (by omega)
  obtain ⟨o3, g3⟩ := hgz 3 (by omega)
  have HC3 := Lib.hid hc3
  have HTK := Lib.hid htk
  have HT := Lib.hid hT3
  have HMV := Lib.hid hmv
  have HGW := Lib.hid hgw
  have HD := Lib.hid hD
  have HP3 := Lib.hid hp3
  have hcb : c.base ≤ g := by omega
  have hcb2 : c.base ≤ tb := by omega
  clear hown3 hgr hat hgz hO hD hzb hc3 htk hT3 hmv hgw hpd hp3
  apply L.two (i := 8) (k := 10) rfl rfl (by kernel_rfl) rfl rfl
  · have z0 : w3.cell? ⟨g, m0 * 4, none⟩ = some o0 := (hcur.cell _).trans g0
    have z1 : w3.cell? ⟨g, m0 * 4 + 1, none⟩ = some o1 := (hcur.cell _).trans g1
    have z2 : w3.cell? ⟨g, m0 * 4 + 2, none⟩ = some o2 := (hcur.cell _).trans g2
    have z3 : w3.cell? ⟨g, m0 * 4 + 3, none⟩ = some o3 := (hcur.cell _).trans g3
    have fz0 := hcur.frozen (m0 * 4)
    have fz1 := hcur.frozen (m0 * 4 + 1)
    have fz2 := hcur.frozen (m0 * 4 + 2)
    have fz3 := hcur.frozen (m0 * 4 + 3)
    have hC1 : Blk ((((w3.setCell ⟨g, m0 * 4, none⟩ (.int .i64 i)).setCell ⟨g, m0 * 4 + 1, none⟩ (.int .i64 p)).setCell ⟨g, m0 * 4 + 2, none⟩ (.int .i64 q)).setCell ⟨g, m0 * 4 + 3, none⟩ (.slice V kn cv)) tb 38 #[.int .i64 r0, .int .i64 f0, .int .i64 0, .slice V0 m0 cp0] := (((hC.1.far (by show tb ≠ g; omega) _).far (by show tb ≠ g; omega) _).far (by show tb ≠ g; omega) _).far (by show tb ≠ g; omega) _
    have hK1 : Blk ((((w3.setCell ⟨g, m0 * 4, none⟩ (.int .i64 i)).setCell ⟨g, m0 * 4 + 1, none⟩ (.int .i64 p)).setCell ⟨g, m0 * 4 + 2, none⟩ (.int .i64 q)).setCell ⟨g, m0 * 4 + 3, none⟩ (.slice V kn cv)) kb 38 #[.int .i64 i, .int .i64 p, .int .i64 q, .slice V kn cv] := (((hC.2.far (by show kb ≠ g; omega) _).far (by show kb ≠ g; omega) _).far (by show kb ≠ g; omega) _).far (by show kb ≠ g; omega) _
    have hcur1 := (((hcur.set_ (m0 * 4) (.int .i64 i)).set_ (m0 * 4 + 1) (.int .i64 p)).set_ (m0 * 4 + 2) (.int .i64 q)).set_ (m0 * 4 + 3) (.slice V kn cv)
    have hT1 : TwoT tb (Value.slice V0 m0 cp0).ownBlock wk ((((w3.setCell ⟨g, m0 * 4, none⟩ (.int .i64 i)).setCell ⟨g, m0 * 4 + 1, none⟩ (.int .i64 p)).setCell ⟨g, m0 * 4 + 2, none⟩ (.int .i64 q)).setCell ⟨g, m0 * 4 + 3, none⟩ (.slice V kn cv)) := (((HT.out.set_ HGW.out _ _).set_ HGW.out _ _).set_ HGW.out _ _).set_ HGW.out _ _
    have hP1 : PP c ((((w3.setCell ⟨g, m0 * 4, none⟩ (.int .i64 i)).setCell ⟨g, m0 * 4 + 1, none⟩ (.int .i64 p)).setCell ⟨g, m0 * 4 + 2, none⟩ (.int .i64 q)).setCell ⟨g, m0 * 4 + 3, none⟩ (.slice V kn cv)) := (((HP3.out.set_tree hok hcur hcb _).set_tree hok (hcur.set_ _ _) hcb _).set_tree hok ((hcur.set_ _ _).set_ _ _) hcb _).set_tree hok (((hcur.set_ _ _).set_ _ _).set_ _ _) hcb _
    unfold stepT
    go_simp
    have HCU := Lib.hid hcur1
    have HT1 := Lib.hid hT1
    have HP1 := Lib.hid hP1
    have HK1 := Lib.hid hK1
    clear z0 z1 z2 z3 fz0 fz1 fz2 fz3 g0 g1 g2 g3 hcur hC hcur1 hT1 hP1 hK1
    generalize ((((w3.setCell ⟨g, m0 * 4, none⟩ (.int .i64 i)).setCell ⟨g, m0 * 4 + 1, none⟩ (.int .i64 p)).setCell ⟨g, m0 * 4 + 2, none⟩ (.int .i64 q)).setCell ⟨g, m0 * 4 + 3, none⟩ (.slice V kn cv)) = W1 at hC1 HCU HT1 HP1 HK1 ⊢
    have n0 := hC1.cell 3
    have fz0 := hC1.frozen 3
    have hob1 : Blk (W1.setCell ⟨tb, 3, none⟩ (.slice (some ⟨g, 0, none⟩) (m0 + 1) c3)) tb 38 #[.int .i64 r0, .int .i64 f0, .int .i64 0, (.slice (some ⟨g, 0, none⟩) (m0 + 1) c3)] := hC1.set_ 3 _
    have hcu2 := HCU.out.far (p := ⟨tb, 3, none⟩) (by show g ≠ tb; omega) (.slice (some ⟨g, 0, none⟩) (m0 + 1) c3)
    have hT2 := HT1.out.set_ (g := tb) (.inl rfl) 3 (.slice (some ⟨g, 0, none⟩) (m0 + 1) c3)
    have hP2 := HP1.out.set_tree hok (i := 3) hC1 hcb2 (.slice (some ⟨g, 0, none⟩) (m0 + 1) c3)
    have hK2 := HK1.out.far (p := ⟨tb, 3, none⟩) (by show kb ≠ tb; omega) (.slice (some ⟨g, 0, none⟩) (m0 + 1) c3)
    have hown2 := ownT_of (zs := [.int .i64 i, .int .i64 p, .int .i64 q, .slice V kn cv]) (xs := xs) (m := m0) hgb hcu2 hc1 hc2 (by simp [HC3.out]) (by rw [List.length_append, HXL.out]; show m0 * 4 + 4 = _; omega) (by
      simp only [Array.toList_setIfInBounds]
      rw [show (m0 + 1) * 4 = m0 * 4 + 4 by omega, take_set4 _ _ _ _ (by rw [Array.length_toList, HC3.out]; omega), HTK.out])
    have HF := Lib.hid (HEND.out wk _ (some ⟨g, 0, none⟩) c3 HD.out hob1 hown2 hT2 HMV.out hP2)
    have HK2 := Lib.hid hK2
    clear hown2 hT2 hob1 hP2 hK2 hcu2
    apply L.one (i := 10) rfl (by kernel_rfl) rfl
    unfold stepT
    go_simp
    refine L.done (by kernel_rfl) ?_
    have n2 := HK2.out.cell 2
    go_wp2
    exact HF.out
  · have n0 := hC.1.cell 3
    have fo := hC.1.frozen 3
    unfold stepT
    go_simp
    have hob1 : Blk (w3.setCell ⟨tb, 3, none⟩ (.slice (some ⟨g, 0, none⟩) (m0 + 1) c3)) tb 38 #[.int .i64 r0, .int .i64 f0, .int .i64 0, (.slice (some ⟨g, 0, none⟩) (m0 + 1) c3)] := hC.1.set_ 3 _
    have hcu1 := hcur.far (p := ⟨tb, 3, none⟩) (by show g ≠ tb; omega) (.slice (some ⟨g, 0, none⟩) (m0 + 1) c3)
    have hT1 := HT.out.set_ (g := tb) (.inl rfl) 3 (.slice (some ⟨g, 0, none⟩) (m0 + 1) c3)
    have hP1 := HP3.out.set_tree hok (i := 3) hC.1 hcb2 (.slice (some ⟨g, 0, none⟩) (m0 + 1) c3)
    have hK1 := hC.2.far (p := ⟨tb, 3, none⟩) (by show kb ≠ tb; omega) (.slice (some ⟨g, 0, none⟩) (m0 + 1) c3)
    clear n0 fo hC hcur
    generalize (w3.setCell ⟨tb, 3, none⟩ (.slice (some ⟨g, 0, none⟩) (m0 + 1) c3)) = W1 at hob1 hcu1 hT1 hP1 hK1 ⊢
    have z0 : W1.cell? ⟨g, m0 * 4, none⟩ = some o0 := (hcu1.cell _).trans g0
    have z1 : W1.cell? ⟨g, m0 * 4 + 1, none⟩ = some o1 := (hcu1.cell _).trans g1
    have z2 : W1.cell? ⟨g, m0 * 4 + 2, none⟩ = some o2 := (hcu1.cell _).trans g2
    have z3 : W1.cell? ⟨g, m0 * 4 + 3, none⟩ = some o3 := (hcu1.cell _).trans g3
    have fz0 := hcu1.frozen (m0 * 4)
    have fz1 := hcu1.frozen (m0 * 4 + 1)
    have fz2 := hcu1.frozen (m0 * 4 + 2)
    have fz3 := hcu1.frozen (m0 * 4 + 3)
    replace hob1 : Blk ((((W1.setCell ⟨g, m0 * 4, none⟩ (.int .i64 i)).setCell ⟨g, m0 * 4 + 1, none⟩ (.int .i64 p)).setCell ⟨g, m0 * 4 + 2, none⟩ (.int .i64 q)).setCell ⟨g, m0 * 4 + 3, none⟩ (.slice V kn cv)) tb 38 #[.int .i64 r0, .int .i64 f0, .int .i64 0, (.slice (some ⟨g, 0, none⟩) (m0 + 1) c3)] := (((hob1.far (by show tb ≠ g; omega) _).far (by show tb ≠ g; omega) _).far (by show tb ≠ g; omega) _).far (by show tb ≠ g; omega) _
    have hK2 : Blk ((((W1.setCell ⟨g, m0 * 4, none⟩ (.int .i64 i)).setCell ⟨g, m0 * 4 + 1, none⟩ (.int .i64 p)).setCell ⟨g, m0 * 4 + 2, none⟩ (.int .i64 q)).setCell ⟨g, m0 * 4 + 3, none⟩ (.slice V kn cv)) kb 38 #[.int .i64 i, .int .i64 p, .int .i64 q, .slice V kn cv] := (((hK1.far (by show kb ≠ g; omega) _).far (by show kb ≠ g; omega) _).far (by show kb ≠ g; omega) _).far (by show kb ≠ g; omega) _
    have hcu2 := (((hcu1.set_ (m0 * 4) (.int .i64 i)).set_ (m0 * 4 + 1) (.int .i64 p)).set_ (m0 * 4 + 2) (.int .i64 q)).set_ (m0 * 4 + 3) (.slice V kn cv)
    have hT2 : TwoT tb (Value.slice V0 m0 cp0).ownBlock wk ((((W1.setCell ⟨g, m0 * 4, none⟩ (.int .i64 i)).setCell ⟨g, m0 * 4 + 1, none⟩ (.int .i64 p)).setCell ⟨g, m0 * 4 + 2, none⟩ (.int .i64 q)).setCell ⟨g, m0 * 4 + 3, none⟩ (.slice V kn cv)) := (((hT1.set_ HGW.out _ _).set_ HGW.out _ _).set_ HGW.out _ _).set_ HGW.out _ _
    have hP2 : PP c ((((W1.setCell ⟨g, m0 * 4, none⟩ (.int .i64 i)).setCell ⟨g, m0 * 4 + 1, none⟩ (.int .i64 p)).setCell ⟨g, m0 * 4 + 2, none⟩ (.int .i64 q)).setCell ⟨g, m0 * 4 + 3, none⟩ (.slice V kn cv)) := (((hP1.set_tree hok hcu1 hcb _).set_tree hok (hcu1.set_ _ _) hcb _).set_tree hok ((hcu1.set_ _ _).set_ _ _) hcb _).set_tree hok (((hcu1.set_ _ _).set_ _ _).set_ _ _) hcb _
    clear hT1 hP1 hK1 hcu1 g0 g1 g2 g3
    have hown2 := ownT_of (zs := [.int .i64 i, .int .i64 p, .int .i64 q, .slice V kn cv]) (xs := xs) (m := m0) hgb hcu2 hc1 hc2 (by simp [HC3.out]) (by rw [List.length_append, HXL.out]; show m0 * 4 + 4 = _; omega) (by
      simp only [Array.toList_setIfInBounds]
      rw [show (m0 + 1) * 4 = m0 * 4 + 4 by omega, take_set4 _ _ _ _ (by rw [Array.length_toList, HC3.out]; omega), HTK.out])
    have HF := Lib.hid (HEND.out wk _ (some ⟨g, 0, none⟩) c3 HD.out hob1 hown2 hT2 HMV.out hP2)
    have HK2 := Lib.hid hK2
    clear hown2 hT2 hob1 hP2 hK2 hcu2
    apply L.one (i := 8) rfl (by kernel_rfl) rfl
    unfold stepT
    go_simp
    refine L.done (by kernel_rfl) ?_
    have n2 := HK2.out.cell 2
    go_wp2
    exact HF.out
end Go.Proofs.Ytndhbdbfjkmloaa
