/- A parser in memory. What (*Parser).miss does. The plain parser never goes behind the text's end. (*Parser).try: what a node does, and no more (no one is told). (*Parser).seq. (*Parser).single: what has one kid. -/
import Derived.Test.YtndhbdbfjkmloaaDoorJTopText21
import Derived.Test.YtndhbdbfjkmloaaDoorJTopText20
import Derived.Test.YtndhbdbfjkmloaaDoorJTopText2
namespace Go.Proofs.YtndhbdbfjkmloaaDoor
set_option maxHeartbeats 4000000
set_option maxRecDepth 100000
open Go.RowKit Go.Maps
structure PC where
  B : Nat
  P : Nat
  M : Nat
  F : Nat
  base : Nat
  A : Option Addr
  n : Nat
  cp : Nat
  fcp : Nat
  s : ByteArray
  hook : Value
  firsts : List Nat
  g : List Rl
  row : Nat -> List Value
  ob : Nat
  bo : Nat
  hk : Bool
  lim : Nat
def outC : Option Nat -> List Value
  | none => [.bool false, .int .i64 0]
  | some n => [.bool true, .int .i64 n]
def stepC (x : Nat × Nat × Option Nat) : List Value := .int .i64 x.1 :: .int .i64 x.2.1 :: outC x.2.2
def parC (c : PC) (lv : Value) (σ : PS) : Array Value :=
  #[.slice c.A c.n c.cp, .string c.s, .map (some c.M), lv, .int .i64 σ.far, .int .u64 σ.want.a, .int .u64 σ.want.b, .int .u64 σ.want.c, .int .u64 σ.want.d, c.hook, .slice (some ⟨c.F, 0, none⟩) c.n c.fcp]
structure PC.Ok (c : PC) : Prop where
  BP : c.B <= c.P
  BM : c.B <= c.M /\ c.B <= c.ob
  Bb : c.B <= c.base
  P : c.P < c.base
  M : c.M < c.base /\ c.ob < c.base
  F : c.F < c.base
  ne1 : c.F ≠ c.P
  ne2 : c.F ≠ c.M /\ c.F ≠ c.ob
  ne3 : c.M ≠ c.P /\ c.ob ≠ c.P
  len : c.n = c.g.length
  fst : ∀ i, i < c.g.length -> c.firsts[i]? = some (firstN c.g i)
  lim : c.lim <= 1000000000000
  bx : c.hk = true -> c.ob ≠ c.M /\ c.bo ≠ c.ob /\ c.bo ≠ c.P /\ c.bo ≠ c.M /\ c.bo < c.base
def mkC (l : List Nat) : List Value := l.map fun (n : Nat) => Value.int .i64 n
def MkOk (c : PC) (w : World) (l : List Nat) : Prop := c.hk = true -> Blk w c.bo 140 #[.slice (some ⟨c.ob, 0, none⟩) c.lim c.lim] /\ Blk w c.ob 3 (mkC l).toArray /\ l.length = c.lim /\ ∀ m ∈ l, m <= 3
theorem MkOk.keep {c : PC} {w w' : World} {l : List Nat} (h : MkOk c w l) (hk : ∀ k, c.hk = true -> k < w.heap.size -> (k = c.bo \/ k = c.ob) -> w'.heap[k]? = w.heap[k]?) : MkOk c w' l := fun hh => by
  obtain ⟨h1, h2, h3, h4⟩ := h hh
  exact ⟨(hk _ hh h1.lt (.inl rfl)).trans h1, (hk _ hh h2.lt (.inr rfl)).trans h2, h3, h4⟩
structure Tight (g : List Rl) (L : Nat) (σ : PS) : Prop where
  nodup : (σ.seen.map (·.1)).Nodup
  inn : ∀ k ∈ σ.seen.map (·.1), k.1 < g.length /\ k.2 <= L
  log : σ.log = σ.seen.map fun x => (x.1.1, x.1.2, x.2)
theorem Tight.of_eq {g : List Rl} {L : Nat} {σ σ' : PS} (h : Tight g L σ) (hs : σ'.seen = σ.seen) (hl : σ'.log = σ.log) : Tight g L σ' := ⟨by rw [hs]; exact h.nodup, by rw [hs]; exact h.inn, by rw [hs, hl]; exact h.log⟩
theorem nodup_lt : ∀ (n : Nat) (l : List Nat), l.Nodup -> (∀ x ∈ l, x < n) -> l.length <= n := by
  intro n
  induction n with
  | zero =>
    intro l _ h
    cases l with
    | nil => simp
    | cons x l => exact absurd (h x (by simp)) (by omega)
  | succ n ih =>
    intro l hn h
    by_cases hm : n ∈ l
    · have h1 := ih (l.erase n) (hn.erase n) (fun x hx => by
        have h2 := (hn.mem_erase_iff).1 hx
        have h3 := h x h2.2
        have h4 := h2.1
        omega)
      rw [List.length_erase_of_mem hm] at h1
      omega
    · have := ih l hn (fun x hx => by
        have h3 := h x hx
        have : x ≠ n := fun e => hm (e ▸ hx)
        omega)
      omega
theorem Tight.len {g : List Rl} {L : Nat} {σ : PS} (h : Tight g L σ) : σ.seen.length <= g.length * (L + 1) := by
  have h1 := nodup_lt (g.length * (L + 1)) ((σ.seen.map (·.1)).map fun k => k.1 * (L + 1) + k.2) (by
    rw [List.nodup_iff_pairwise_ne, List.pairwise_map]
    refine List.Pairwise.imp_of_mem ?_ (List.nodup_iff_pairwise_ne.1 h.nodup)
    intro a b ha hb hab he
    have h2 := h.inn a ha
    have h3 := h.inn b hb
    apply hab
    have e1 : a.1 = b.1 := by
      have he' : a.1 * (L + 1) + a.2 = b.1 * (L + 1) + b.2 := he
      have : (a.1 * (L + 1) + a.2) / (L + 1) = (b.1 * (L + 1) + b.2) / (L + 1) := by rw [he']
      rw [Nat.mul_comm, Nat.mul_add_div (by omega), Nat.div_eq_of_lt (by omega), Nat.mul_comm, Nat.mul_add_div (by omega), Nat.div_eq_of_lt (by omega)] at this
      omega
    have e2 : a.2 = b.2 := by
      have he' : a.1 * (L + 1) + a.2 = b.1 * (L + 1) + b.2 := he
      rw [e1] at he'; omega
    exact Prod.ext e1 e2) (by
    intro x hx
    obtain ⟨k, hk, rfl⟩ := List.mem_map.1 hx
    have h2 := h.inn k hk
    have : k.1 * (L + 1) + (L + 1) <= g.length * (L + 1) := by rw [<- Nat.succ_mul]; exact Nat.mul_le_mul_right _ h2.1
    omega)
  simpa using h1
theorem Tight.log_len {g : List Rl} {L : Nat} {σ : PS} (h : Tight g L σ) : σ.log.length = σ.seen.length := by rw [h.log]; simp
structure Par (c : PC) (w : World) (σ : PS) : Prop where
  par : ∃ lv, Blk w c.P 142 (parC c lv σ) /\ w.ownsRow c.base 150 4 lv σ.log.length (σ.log.flatMap stepC)
  memo : Memo w c.M σ.seen
  first : ∀ i x, c.firsts[i]? = some x -> w.cell? ⟨c.F, i, none⟩ = some (.int .i64 (x : Nat))
  size : c.base <= w.heap.size
  gram : GrIs w c.B c.g c.A c.cp c.row
  tight : Tight c.g c.s.data.toList.length σ
  marks : MkOk c w σ.marks
structure Keeps (c : PC) (w w' : World) : Prop where
  os : w'.os = w.os
  tape : w'.tape = w.tape
  output : w'.output = w.output
  size : w.heap.size <= w'.heap.size
  blk : ∀ k, k < w.heap.size -> k ≠ c.P -> (k ≠ c.M /\ k ≠ c.ob) -> (k < c.base \/ ∀ cs fr, w.heap[k]? ≠ some (.cells cs 150 fr)) -> w'.heap[k]? = w.heap[k]?
section
variable {c : PC} {w w' w'' : World} {σ : PS}
theorem Keeps.refl (c : PC) (w : World) : Keeps c w w := ⟨rfl, rfl, rfl, Nat.le_refl _, fun _ _ _ _ _ => rfl⟩
theorem Keeps.trans (h : Keeps c w w') (h' : Keeps c w' w'') : Keeps c w w'' :=
  ⟨h'.os.trans h.os, h'.tape.trans h.tape, h'.output.trans h.output, Nat.le_trans h.size h'.size, fun k h1 h2 h3 h4 => by
    have e := h.blk k h1 h2 h3 h4
    rw [<- e]
    refine h'.blk k (Nat.lt_of_lt_of_le h1 h.size) h2 h3 ?_
    rcases h4 with h4 | h4
    · exact .inl h4
    · exact .inr (by rw [e]; exact h4)⟩
theorem Keeps.of_below (h : Below w.heap.size w w') : Keeps c w w' := ⟨h.os, h.tape, h.output, h.size, fun k h1 _ _ _ => h.block k h1⟩
theorem Keeps.below (h : Keeps c w w') {B : Nat} (hB : B <= w.heap.size) (h1 : B <= c.P) (h2 : B <= c.M /\ B <= c.ob) (h3 : B <= c.base) : Below B w w' :=
  ⟨h.os, h.tape, h.output, h.size, fun k hk => h.blk k (by omega) (by omega) (by omega) (.inl (by omega))⟩
theorem Keeps.box (h : Keeps c w w') {k : Nat} {t : TypeId} {cs : Array Value} (hb : Blk w k t cs) (ht : t ≠ 150) (h1 : k ≠ c.P) (h2 : k ≠ c.M /\ k ≠ c.ob) : Blk w' k t cs :=
  (h.blk k hb.lt h1 h2 (.inr fun cs' fr e => by
    have hb' : w.heap[k]? = some (.cells cs t (0, 0)) := hb
    rw [hb'] at e
    injection e with e
    injection e with e1 e2 e3
    exact ht e2)).trans hb
theorem Keeps.alloc (h : Keeps c w w') (o : Obj) : Keeps c w (w'.alloc o) := h.trans (Keeps.of_below ((Below.refl _ _).alloc (Nat.le_refl _) o))
theorem Keeps.drew (h : Keeps c w w') : Keeps c w w'.drew := ⟨h.os, h.tape, h.output, h.size, h.blk⟩
theorem Par.below (h : Par c w σ) (hok : c.Ok) (hb : Below w.heap.size w w') : Par c w' σ := by
  obtain ⟨⟨lv, h1, h2⟩, h3, h4, h5, h6, h7, h8⟩ := h
  have hg : w.grownBy w' none := ⟨hb.os, hb.tape, hb.output, hb.size, fun k hk _ => hb.block k hk⟩
  exact ⟨⟨lv, h1.below hb h1.lt, h2.kept hg (by cases h : lv.ownBlock with
    | none => exact .inl rfl
    | some k => exact .inr (by simp))⟩, h3.kept hg (by simp), fun i x hi => (hb.cell (by have := hok.F; simp; omega)).trans (h4 i x hi), Nat.le_trans h5 hb.size, h6.on (hb.mono (by have := hok.Bb; omega)), h7, h8.keep fun k _ hk _ => hb.block k hk⟩
theorem Par.drew (h : Par c w σ) : Par c w.drew σ := ⟨h.par, h.memo, h.first, h.size, h.gram.on ((Below.refl _ _).drew), h.tight, h.marks.keep fun _ _ _ _ => rfl⟩
theorem Par.alloc (h : Par c w σ) (hok : c.Ok) (o : Obj) : Par c (w.alloc o) σ := h.below hok ((Below.refl _ _).alloc (Nat.le_refl _) o)
theorem Par.set (h : Par c w σ) (hok : c.Ok) (i : Nat) (u : Value) {σ' : PS} (hs : ∀ lv, (parC c lv σ).setIfInBounds i u = parC c lv σ') (hl : σ'.log = σ.log) (hm : σ'.seen = σ.seen) (hmk : σ'.marks = σ.marks := by rfl) : Par c (w.setCell ⟨c.P, i, none⟩ u) σ' /\ Keeps c w (w.setCell ⟨c.P, i, none⟩ u) := by
  obtain ⟨⟨lv, h1, h2⟩, h3, h4, h5, h6, h7, h8⟩ := h
  have hg : w.grownBy (w.setCell ⟨c.P, i, none⟩ u) (some c.P) := ⟨rfl, rfl, rfl, by simp [World.setCell], fun k hk hne => Below.heap_setCell w ⟨c.P, i, none⟩ u k (by rintro rfl; exact hne rfl)⟩
  have ho : lv.ownBlock = none \/ lv.ownBlock ≠ some c.P := by
    cases hv : lv.ownBlock with
    | none => exact .inl rfl
    | some k => exact .inr (fun e => by injection e with e; have := (h2.lt k hv).1; have := hok.P; omega)
  refine ⟨⟨⟨lv, by rw [<- hs lv]; exact h1.set_ i u, by rw [hl]; exact h2.kept hg ho⟩, by rw [hm]; exact h3.kept hg (fun e => hok.ne3.1 (by injection e)), fun j x hj => ?_, by simpa [World.setCell] using h5, h6.on ((Below.refl _ _).setCell hok.BP _), h7.of_eq hm hl, by rw [hmk]; exact h8.keep fun k hh _ hk => Below.heap_setCell w ⟨c.P, i, none⟩ u k (by have := hok.bx hh; have := hok.ne3; show k ≠ c.P; omega)⟩, ⟨rfl, rfl, rfl, by simp [World.setCell], fun k _ hk _ _ => Below.heap_setCell w ⟨c.P, i, none⟩ u k hk⟩⟩
  · rw [<- h4 j x hj]
    exact World.cell?_of_block (Below.heap_setCell w ⟨c.P, i, none⟩ u c.F hok.ne1)
end
theorem run_noset (w : World) : (Instr.build 24 #[]).run Tryd.prog w = .ok (.agg #[.int .u64 0, .int .u64 0, .int .u64 0, .int .u64 0]) w := by kernel_rfl
section
variable {c : PC} {w : World} {σ : PS}
theorem Par.c0 (h : Par c w σ) : w.cell? ⟨c.P, 0, none⟩ = some (.slice c.A c.n c.cp) := h.par.choose_spec.1.cell 0
theorem Par.c1 (h : Par c w σ) : w.cell? ⟨c.P, 1, none⟩ = some (.string c.s) := h.par.choose_spec.1.cell 1
theorem Par.c2 (h : Par c w σ) : w.cell? ⟨c.P, 2, none⟩ = some (.map (some c.M)) := h.par.choose_spec.1.cell 2
theorem Par.c4 (h : Par c w σ) : w.cell? ⟨c.P, 4, none⟩ = some (.int .i64 σ.far) := h.par.choose_spec.1.cell 4
theorem Par.c5 (h : Par c w σ) : w.cell? ⟨c.P, 5, none⟩ = some (.int .u64 σ.want.a) := h.par.choose_spec.1.cell 5
theorem Par.c6 (h : Par c w σ) : w.cell? ⟨c.P, 6, none⟩ = some (.int .u64 σ.want.b) := h.par.choose_spec.1.cell 6
theorem Par.c7 (h : Par c w σ) : w.cell? ⟨c.P, 7, none⟩ = some (.int .u64 σ.want.c) := h.par.choose_spec.1.cell 7
theorem Par.c8 (h : Par c w σ) : w.cell? ⟨c.P, 8, none⟩ = some (.int .u64 σ.want.d) := h.par.choose_spec.1.cell 8
theorem Par.c9 (h : Par c w σ) : w.cell? ⟨c.P, 9, none⟩ = some c.hook := h.par.choose_spec.1.cell 9
theorem Par.c10 (h : Par c w σ) : w.cell? ⟨c.P, 10, none⟩ = some (.slice (some ⟨c.F, 0, none⟩) c.n c.fcp) := h.par.choose_spec.1.cell 10
theorem Par.fr (h : Par c w σ) (i : Nat) : w.frozen? ⟨c.P, i, none⟩ = false := h.par.choose_spec.1.frozen i
theorem Par.setWant (h : Par c w σ) (hok : c.Ok) (y : S4) :
    Par c ((((w.setCell ⟨c.P, 5, none⟩ (.int .u64 y.a)).setCell ⟨c.P, 6, none⟩ (.int .u64 y.b)).setCell ⟨c.P, 7, none⟩ (.int .u64 y.c)).setCell ⟨c.P, 8, none⟩ (.int .u64 y.d)) { σ with want := y } /\
    Keeps c w ((((w.setCell ⟨c.P, 5, none⟩ (.int .u64 y.a)).setCell ⟨c.P, 6, none⟩ (.int .u64 y.b)).setCell ⟨c.P, 7, none⟩ (.int .u64 y.c)).setCell ⟨c.P, 8, none⟩ (.int .u64 y.d)) := by
  obtain ⟨a1, b1⟩ := h.set hok 5 (.int .u64 y.a) (σ' := { σ with want := ⟨y.a, σ.want.b, σ.want.c, σ.want.d⟩ }) (fun _ => rfl) rfl rfl
  obtain ⟨a2, b2⟩ := a1.set hok 6 (.int .u64 y.b) (σ' := { σ with want := ⟨y.a, y.b, σ.want.c, σ.want.d⟩ }) (fun _ => rfl) rfl rfl
  obtain ⟨a3, b3⟩ := a2.set hok 7 (.int .u64 y.c) (σ' := { σ with want := ⟨y.a, y.b, y.c, σ.want.d⟩ }) (fun _ => rfl) rfl rfl
  obtain ⟨a4, b4⟩ := a3.set hok 8 (.int .u64 y.d) (σ' := { σ with want := y }) (fun _ => rfl) rfl rfl
  exact ⟨a4, b1.trans (b2.trans (b3.trans b4))⟩
end
theorem miss_any {c : PC} (hok : c.Ok) {σ : PS} (p : Nat) (x : S4) (w : World) (h : Par c w σ) :
    Calls Tryd.prog 129 #[.pointer (some ⟨c.P, 0, none⟩), .int .i64 p, .agg #[.int .u64 x.a, .int .u64 x.b, .int .u64 x.c, .int .u64 x.d]] w fun e w' => e = .returned (.tuple #[]) /\ Par c w' (missS σ p x) /\ Keeps c w w' := by
  have hj := fun (y : S4) (W : World) => join_any y x W
  unfold S4.val at hj
  have HJ := Lib.hid hj
  have hb0 : Blk (w.alloc (.cells #[.int .u64 x.a, .int .u64 x.b, .int .u64 x.c, .int .u64 x.d] 24)) w.heap.size 24 #[.int .u64 x.a, .int .u64 x.b, .int .u64 x.c, .int .u64 x.d] := blk_at rfl
  have hpar : Par c (w.alloc (.cells #[.int .u64 x.a, .int .u64 x.b, .int .u64 x.c, .int .u64 x.d] 24)) σ := h.alloc hok _
  have hkp : Keeps c w (w.alloc (.cells #[.int .u64 x.a, .int .u64 x.b, .int .u64 x.c, .int .u64 x.d] 24)) := (Keeps.refl c w).alloc _
  have hc4 := hpar.c4
  have hne : c.P < w.heap.size := by have := hok.P; have := h.size; omega
  have hrn := run_noset
  clear hj
  have htail : ∀ (W : World) (σ1 : PS), Par c W σ1 -> Keeps c w W -> Blk W w.heap.size 24 #[.int .u64 x.a, .int .u64 x.b, .int .u64 x.c, .int .u64 x.d] -> True := fun _ _ _ _ _ => trivial
  by_cases h1 : σ.far < (p : Int)
  · have hm : missS σ p x = { σ with far := p, want := S4.map2 orU noS x } := by unfold missS; rw [if_pos h1]
    rw [hm]
    have f4 := h.fr 4
    have f5 := h.fr 5
    have f6 := h.fr 6
    have f7 := h.fr 7
    have f8 := h.fr 8
    have s4 := h.c4
    have s5 := h.c5
    have s6 := h.c6
    have s7 := h.c7
    have s8 := h.c8
    have h4 := h.set hok 4 (.int .i64 p) (σ' := { σ with far := p }) (fun _ => rfl) rfl rfl
    have h5 := h4.1.setWant hok noS
    have HP := Lib.hid h5.1
    have HK := Lib.hid (h4.2.trans h5.2)
    clear h4 h5
    go_enter Tryd.func129, Tryd.ntmps129
    go_wp2_with fail
    refine wp_region_t (fun W => Par c W { σ with far := p, want := noS } /\ Keeps c w W /\ Blk W w.heap.size 24 #[.int .u64 x.a, .int .u64 x.b, .int .u64 x.c, .int .u64 x.d]) 9 (by kernel_rfl) (by kernel_rfl) ⟨(HP.out.alloc hok _).drew, (HK.out.alloc _).drew, (blk_at (by simp [World.setCell])).drew⟩ ?_
    simp only [List.take_succ_cons, List.take_zero]
    clear s4 s5 s6 s7 s8 f4 f5 f6 f7 f8
    repeat
      (first | ((with_reducible apply QW.free rfl); · (intro W hW; obtain ⟨q1, q2, q3⟩ := hW; have s5 := q1.c5; have s6 := q1.c6; have s7 := q1.c7; have s8 := q1.c8; have t0 := q3.cell 0; have t1 := q3.cell 1; have t2 := q3.cell 2; have t3 := q3.cell 3; go_simp; first | rfl | (go_at_call 135; refine (HJ.out noS _).mono ?_; exact fun e w' h => ⟨h.1, q1.below hok h.2, q2.trans (Keeps.of_below h.2), q3.below h.2 q3.lt⟩))) | ((with_reducible apply QW.skip rfl); · (first | exact ⟨_, _, rfl, rfl, .inl rfl⟩ | exact ⟨_, _, rfl, rfl, .inr rfl⟩)) | ((with_reducible apply QW.take rfl); (· exact ⟨_, rfl, rfl⟩); (· (intro W hW; obtain ⟨q1, q2, q3⟩ := hW; have s5 := q1.c5; have s6 := q1.c6; have s7 := q1.c7; have s8 := q1.c8; have t0 := q3.cell 0; have t1 := q3.cell 1; have t2 := q3.cell 2; have t3 := q3.cell 3; go_simp; first | rfl | (go_at_call 135; refine (HJ.out noS _).mono ?_; exact fun e w' h => ⟨h.1, q1.below hok h.2, q2.trans (Keeps.of_below h.2), q3.below h.2 q3.lt⟩))))); (try simp only [Act.put, List.setIfInBounds_toArray, List.set_cons_zero, List.set_cons_succ])
    refine QW.nil ?_
    rintro w1 ⟨q1, q2, q3⟩
    have s5 := q1.c5
    have s6 := q1.c6
    have s7 := q1.c7
    have s8 := q1.c8
    have f5 := q1.fr 5
    have f6 := q1.fr 6
    have f7 := q1.fr 7
    have f8 := q1.fr 8
    simp only [List.drop]
    go_wp2
    go_end0
    exact ⟨rfl, (q1.setWant hok (S4.map2 orU noS x)).1, q2.trans (q1.setWant hok (S4.map2 orU noS x)).2⟩
  · by_cases h2 : (p : Int) = σ.far
    · have hm : missS σ p x = { σ with want := S4.map2 orU σ.want x } := by unfold missS; rw [if_neg h1, if_pos h2]
      rw [hm]
      go_enter Tryd.func129, Tryd.ntmps129
      go_wp2_with fail
      refine wp_region_t (fun W => Par c W σ /\ Keeps c w W /\ Blk W w.heap.size 24 #[.int .u64 x.a, .int .u64 x.b, .int .u64 x.c, .int .u64 x.d]) 9 (by kernel_rfl) (by kernel_rfl) ⟨hpar.drew, hkp.drew, hb0.drew⟩ ?_
      simp only [List.take_succ_cons, List.take_zero]
      repeat
        (first | ((with_reducible apply QW.free rfl); · (intro W hW; obtain ⟨q1, q2, q3⟩ := hW; have s5 := q1.c5; have s6 := q1.c6; have s7 := q1.c7; have s8 := q1.c8; have t0 := q3.cell 0; have t1 := q3.cell 1; have t2 := q3.cell 2; have t3 := q3.cell 3; go_simp; first | rfl | (go_at_call 135; refine (HJ.out σ.want _).mono ?_; exact fun e w' h => ⟨h.1, q1.below hok h.2, q2.trans (Keeps.of_below h.2), q3.below h.2 q3.lt⟩))) | ((with_reducible apply QW.skip rfl); · (first | exact ⟨_, _, rfl, rfl, .inl rfl⟩ | exact ⟨_, _, rfl, rfl, .inr rfl⟩)) | ((with_reducible apply QW.take rfl); (· exact ⟨_, rfl, rfl⟩); (· (intro W hW; obtain ⟨q1, q2, q3⟩ := hW; have s5 := q1.c5; have s6 := q1.c6; have s7 := q1.c7; have s8 := q1.c8; have t0 := q3.cell 0; have t1 := q3.cell 1; have t2 := q3.cell 2; have t3 := q3.cell 3; go_simp; first | rfl | (go_at_call 135; refine (HJ.out σ.want _).mono ?_; exact fun e w' h => ⟨h.1, q1.below hok h.2, q2.trans (Keeps.of_below h.2), q3.below h.2 q3.lt⟩))))); (try simp only [Act.put, List.setIfInBounds_toArray, List.set_cons_zero, List.set_cons_succ])
      refine QW.nil ?_
      rintro w1 ⟨q1, q2, q3⟩
      have s5 := q1.c5
      have s6 := q1.c6
      have s7 := q1.c7
      have s8 := q1.c8
      have f5 := q1.fr 5
      have f6 := q1.fr 6
      have f7 := q1.fr 7
      have f8 := q1.fr 8
      simp only [List.drop]
      go_wp2
      go_end0
      exact ⟨rfl, (q1.setWant hok (S4.map2 orU σ.want x)).1, q2.trans (q1.setWant hok (S4.map2 orU σ.want x)).2⟩
    · have hm : missS σ p x = σ := by unfold missS; rw [if_neg h1, if_neg h2]
      rw [hm]
      go_enter Tryd.func129, Tryd.ntmps129
      go_wp2
      go_end0
      exact ⟨rfl, hpar, hkp⟩
end Go.Proofs.YtndhbdbfjkmloaaDoor
namespace Go.Proofs.YtndhbdbfjkmloaaDoor
set_option maxRecDepth 100000
def Bound (L : Nat) (σ : PS) : Prop := ∀ i p n, recall σ.seen (i, p) = some (some n) -> p <= L -> p + n <= L
theorem Bound.of_eq {L : Nat} {σ σ1 : PS} (h : Bound L σ) (he : σ1.seen = σ.seen) : Bound L σ1 := fun i p n hh => h i p n (by rw [<- he]; exact hh)
theorem pk_bound (g : List Rl) (s : List UInt8) (hook : Bool) : ∀ m j p σ o σ1, pk g s hook m j p σ = some (o, σ1) -> p <= s.length -> Bound s.length σ -> (∀ tq, o = some tq -> tq <= s.length) /\ Bound s.length σ1 := by
  intro m
  induction m with
  | zero => intro j p σ o σ1 h; cases h
  | succ m ih =>
    intro j p σ o σ1 h hp hB
    cases j with
    | try_ e n =>
      simp only [pk] at h
      cases he : pk g s hook m (.node e n) p σ with
      | none => rw [he] at h; cases h
      | some x =>
        obtain ⟨o', σ'⟩ := x
        rw [he] at h
        simp only [Option.some.injEq, Prod.mk.injEq] at h
        obtain ⟨rfl, rfl⟩ := h
        obtain ⟨h1, h2⟩ := ih _ _ _ _ _ he hp hB
        exact ⟨h1, h2.of_eq (markS_seen _ _ _)⟩
    | rule i =>
      simp only [pk] at h
      cases hs : recall σ.seen (i, p) with
      | some o' =>
        rw [hs] at h
        simp only [Option.some.injEq, Prod.mk.injEq] at h
        obtain ⟨rfl, rfl⟩ := h
        refine ⟨fun tq ht => ?_, hB⟩
        cases o' with
        | none => cases ht
        | some k => injection ht with ht; subst ht; exact hB i p k hs hp
      | none =>
        rw [hs] at h
        simp only at h
        cases hg : g[i]? with
        | none => rw [hg] at h; cases h
        | some r =>
          rw [hg] at h
          simp only at h
          cases he : pk g s hook m (.try_ r.2 (firstN g i)) p σ with
          | none => rw [he] at h; cases h
          | some x =>
            obtain ⟨o', σ'⟩ := x
            rw [he] at h
            simp only at h
            split at h
            · cases h
            · simp only [Option.some.injEq, Prod.mk.injEq] at h
              obtain ⟨rfl, rfl⟩ := h
              obtain ⟨h1, h2⟩ := ih _ _ _ _ _ he hp hB
              refine ⟨h1, fun j q n hh hq => ?_⟩
              rw [recall_app] at hh
              split at hh
              · exact h2 j q n hh hq
              · split at hh
                · rename_i hk
                  injection hk with hk1 hk2
                  subst hk1 hk2
                  injection hh with hh
                  cases o' with
                  | none => cases hh
                  | some tq =>
                    have := h1 tq rfl
                    injection hh with hh
                    have hh' : tq - p = n := hh
                    omega
                · cases hh
    | seq es n =>
      cases es with
      | nil =>
        simp only [pk, Option.some.injEq, Prod.mk.injEq] at h
        obtain ⟨rfl, rfl⟩ := h
        exact ⟨fun tq ht => by injection ht with ht; omega, hB⟩
      | cons e es =>
        simp only [pk] at h
        cases he : pk g s hook m (.try_ e n) p σ with
        | none => rw [he] at h; cases h
        | some x =>
          obtain ⟨o', σ'⟩ := x
          rw [he] at h
          obtain ⟨h1, h2⟩ := ih _ _ _ _ _ he hp hB
          cases o' with
          | none =>
            simp only [Option.some.injEq, Prod.mk.injEq] at h
            obtain ⟨rfl, rfl⟩ := h
            exact ⟨h1, h2⟩
          | some tq => exact ih _ _ _ _ _ h (h1 tq rfl) h2
    | alt es n =>
      cases es with
      | nil =>
        simp only [pk, Option.some.injEq, Prod.mk.injEq] at h
        obtain ⟨rfl, rfl⟩ := h
        exact ⟨fun tq ht => (by cases ht), hB⟩
      | cons e es =>
        simp only [pk] at h
        cases he : pk g s hook m (.try_ e n) p σ with
        | none => rw [he] at h; cases h
        | some x =>
          obtain ⟨o', σ'⟩ := x
          rw [he] at h
          obtain ⟨h1, h2⟩ := ih _ _ _ _ _ he hp hB
          cases o' with
          | some tq =>
            simp only [Option.some.injEq, Prod.mk.injEq] at h
            obtain ⟨rfl, rfl⟩ := h
            exact ⟨h1, h2⟩
          | none => exact ih _ _ _ _ _ h hp h2
    | rep e n =>
      simp only [pk] at h
      cases he : pk g s hook m (.try_ e n) p σ with
      | none => rw [he] at h; cases h
      | some x =>
        obtain ⟨o', σ'⟩ := x
        rw [he] at h
        obtain ⟨h1, h2⟩ := ih _ _ _ _ _ he hp hB
        cases o' with
        | none =>
          simp only [Option.some.injEq, Prod.mk.injEq] at h
          obtain ⟨rfl, rfl⟩ := h
          exact ⟨fun tq ht => by injection ht with ht; omega, h2⟩
        | some tq => exact ih _ _ _ _ _ h (h1 tq rfl) h2
    | one k e n =>
      simp only [pk] at h
      cases he : pk g s hook m (.try_ e (n + 1)) p σ with
      | none => rw [he] at h; cases h
      | some x =>
        obtain ⟨o', σ'⟩ := x
        rw [he] at h
        obtain ⟨h1, h2⟩ := ih _ _ _ _ _ he hp hB
        cases o' with
        | none =>
          simp only [Option.some.injEq, Prod.mk.injEq] at h
          obtain ⟨rfl, rfl⟩ := h
          refine ⟨fun tq ht => ?_, h2⟩
          split at ht
          · cases ht
          · injection ht with ht; omega
        | some tq =>
          simp only at h
          split at h
          · simp only [Option.some.injEq, Prod.mk.injEq] at h
            obtain ⟨rfl, rfl⟩ := h
            exact ⟨fun tq ht => by injection ht with ht; omega, h2⟩
          · split at h
            · simp only [Option.some.injEq, Prod.mk.injEq] at h
              obtain ⟨rfl, rfl⟩ := h
              exact ⟨fun tq ht => (by cases ht), h2⟩
            · split at h
              · simp only [Option.some.injEq, Prod.mk.injEq] at h
                obtain ⟨rfl, rfl⟩ := h
                exact ⟨h1, h2⟩
              · exact ih _ _ _ _ _ h (h1 tq rfl) h2
    | node e n =>
      obtain ⟨k, a, b, c, d, t, ks⟩ := e
      rw [pk_node] at h
      split at h
      · simp only [Option.some.injEq, Prod.mk.injEq] at h
        obtain ⟨rfl, rfl⟩ := h
        exact ⟨fun tq ht => by injection ht with ht; omega, hB⟩
      split at h
      · split at h
        · rename_i hc
          simp only [Option.some.injEq, Prod.mk.injEq] at h
          obtain ⟨rfl, rfl⟩ := h
          exact ⟨fun tq ht => by injection ht with ht; omega, hB⟩
        · simp only [Option.some.injEq, Prod.mk.injEq] at h
          obtain ⟨rfl, rfl⟩ := h
          exact ⟨fun tq ht => (by cases ht), hB.of_eq (missS_seen _ _ _)⟩
      split at h
      · split at h
        · rename_i hc
          simp only [Option.some.injEq, Prod.mk.injEq] at h
          obtain ⟨rfl, rfl⟩ := h
          have := litAt_le hc hp
          exact ⟨fun tq ht => by injection ht with ht; subst ht; simpa using this, hB⟩
        · simp only [Option.some.injEq, Prod.mk.injEq] at h
          obtain ⟨rfl, rfl⟩ := h
          exact ⟨fun tq ht => (by cases ht), hB.of_eq (missS_seen _ _ _)⟩
      split at h
      · exact ih _ _ _ _ _ h hp hB
      split at h
      · exact ih _ _ _ _ _ h hp hB
      split at h
      · exact ih _ _ _ _ _ h hp hB
      cases ks with
      | nil => cases h
      | cons e es => exact ih _ _ _ _ _ h hp hB
end Go.Proofs.YtndhbdbfjkmloaaDoor
namespace Go.Proofs.YtndhbdbfjkmloaaDoor
set_option maxHeartbeats 8000000
set_option maxRecDepth 100000
open Go.RowKit Go.Maps
def RtW (g : List Rl) (e : Ex) : Prop := Rt g e /\ WfE e
def Ret (o : Option Nat) (e : Ending) : Prop := ∃ z : Int, e = .returned (.tuple #[.int .i64 z, .bool o.isSome]) /\ ∀ tq, o = some tq -> z = (tq : Int)
def Went (c : PC) (w : World) (r : Option Nat × PS) (e : Ending) (w' : World) : Prop := Ret r.1 e /\ Par c w' r.2 /\ Keeps c w w'
def DoesNode (c : PC) (g : List Rl) (m : Nat) : Prop := ∀ (e : Ex) (num p : Nat) (σ : PS) (r : Option Nat × PS) (cs : List Value) (w : World), pk g c.s.data.toList c.hk m (.node e num) p σ = some r -> ExIs w c.B e cs -> RtW g e -> num + nodes e <= c.lim -> p <= c.s.data.toList.length -> Bound c.s.data.toList.length σ -> Par c w σ ->
  Calls Tryd.prog 110 #[.pointer (some ⟨c.P, 0, none⟩), .agg cs.toArray, .int .i64 num, .int .i64 p] w (Went c w r)
def DoesTry (c : PC) (g : List Rl) (m : Nat) : Prop := ∀ (e : Ex) (num p : Nat) (σ : PS) (r : Option Nat × PS) (cs : List Value) (w : World), pk g c.s.data.toList c.hk m (.try_ e num) p σ = some r -> ExIs w c.B e cs -> RtW g e -> num + nodes e <= c.lim -> p <= c.s.data.toList.length -> Bound c.s.data.toList.length σ -> Par c w σ ->
  Calls Tryd.prog 83 #[.pointer (some ⟨c.P, 0, none⟩), .agg cs.toArray, .int .i64 num, .int .i64 p] w (Went c w r)
theorem run_nofn (w : World) : Sem.run Tryd.prog (binOp BinOp.neq 139 Value.nilFunc Value.nilFunc) w = .ok (.bool false) w := by kernel_rfl
theorem try_none {c : PC} (hok : c.Ok) (hh0 : c.hk = false) (hh : c.hook = .nilFunc) {g : List Rl} {m : Nat} (hN : DoesNode c g m) : DoesTry c g (m + 1) := by
  intro e num p σ r cs w hpk hE hR hnum hp hB h
  have hrf := run_nofn
  have hsz := h.size
  have hb1 := hok.Bb
  obtain ⟨k, a, b, d1, d2, t, A, n, cp, rfl⟩ := e.parts hE
  simp only [pk] at hpk
  cases hn : pk g c.s.data.toList c.hk m (.node e num) p σ with
  | none => rw [hn] at hpk; cases hpk
  | some r1 =>
    rw [hn] at hpk
    obtain ⟨o, σ1⟩ := r1
    have hr : r = (o, σ1) := by simp only [markS, hh0] at hpk; injection hpk with hpk; exact hpk.symm
    subst hr
    have hal : Below w.heap.size w (w.alloc (.cells #[.int .i64 k, .int .u64 a, .int .u64 b, .int .u64 d1, .int .u64 d2, .string t, .slice A n cp] 27)) := (Below.refl _ _).alloc (Nat.le_refl _) _
    have hcall := hN e num p σ (o, σ1) _ _ hn (hE.on (hal.mono (by omega))) hR hnum hp hB (h.below hok hal)
    have HC := Lib.hid hcall
    clear hcall hE hn
    go_enter Tryd.func83, Tryd.ntmps83
    go_wp2_with fail
    refine HC.out.mono ?_
    rintro e' w1 ⟨⟨z, rfl, hz⟩, h1, h2⟩
    have s9 : w1.cell? ⟨c.P, 9, none⟩ = some .nilFunc := by rw [<- hh]; exact h1.c9
    go_wp2
    go_ret2
    exact ⟨⟨z, rfl, hz⟩, h1, (Keeps.of_below hal).trans h2⟩
def HookF (_ : PC) : Prop := False
theorem try_told {c : PC} (_ : c.Ok) (_ : c.hk = true) (hh : HookF c) {g : List Rl} {m : Nat} (_ : DoesNode c g m) : DoesTry c g (m + 1) := hh.elim
def HookOk (c : PC) : Prop := (c.hk = false /\ c.hook = .nilFunc) \/ (c.hk = true /\ HookF c)
theorem try_any {c : PC} (hok : c.Ok) (hh : HookOk c) {g : List Rl} {m : Nat} (hN : DoesNode c g m) : DoesTry c g (m + 1) := by
  rcases hh with hh | hh
  · exact try_none hok hh.1 hh.2 hN
  · exact try_told hok hh.1 hh.2 hN
theorem DoesTry.le {c : PC} {g : List Rl} {m m' : Nat} (h : DoesTry c g m) (hm : m' <= m) : DoesTry c g m' := fun e num p σ r cs w hpk => h e num p σ r cs w (pk_le hpk hm)
theorem DoesNode.le {c : PC} {g : List Rl} {m m' : Nat} (h : DoesNode c g m) (hm : m' <= m) : DoesNode c g m' := fun e num p σ r cs w hpk => h e num p σ r cs w (pk_le hpk hm)
theorem seq_any {c : PC} (hok : c.Ok) {g : List Rl} {m : Nat} (hT : DoesTry c g m) (k a b d1 d2 : Int) (t : ByteArray) (ks : List Ex) (num p : Nat) (σ : PS) (r : Option Nat × PS) (cs : List Value) (w : World)
    (hpk : pk g c.s.data.toList c.hk m (.seq ks (num + 1)) p σ = some r) (hE : ExIs w c.B (.mk k a b d1 d2 t ks) cs) (hR : ∀ e ∈ ks, RtW g e) (hnum : num + 1 + nodesAll ks <= c.lim) (hp : p <= c.s.data.toList.length) (hB : Bound c.s.data.toList.length σ) (h : Par c w σ) :
    Calls Tryd.prog 130 #[.pointer (some ⟨c.P, 0, none⟩), .agg cs.toArray, .int .i64 num, .int .i64 p] w (Went c w r) := by
  have hsz := h.size
  have hb1 := hok.Bb
  have hb2 := hok.BP
  have hb3 := hok.BM
  obtain ⟨ht, KA, kcp, rfl, hkc, hkm, _⟩ := hE.shape
  unfold exCells
  have hal : Below w.heap.size w (w.alloc (.cells #[.int .i64 k, .int .u64 a, .int .u64 b, .int .u64 d1, .int .u64 d2, .string t, .slice KA ks.length kcp] 27)) := (Below.refl _ _).alloc (Nat.le_refl _) _
  have hpar := h.below hok hal
  have hkp : Keeps c w (w.alloc (.cells #[.int .i64 k, .int .u64 a, .int .u64 b, .int .u64 d1, .int .u64 d2, .string t, .slice KA ks.length kcp] 27)) := Keeps.of_below hal
  have hm8 : ks.length <= 9223372036854775807 := by unfold maxLen at hkm; omega
  have hnum' : num + 1 + nodesAll ks <= c.lim := hnum
  have hlim := hok.lim
  have HE := Lib.hid hE
  have HT := Lib.hid hT
  have HPK := Lib.hid hpk
  have HRR := Lib.hid hR
  have HB := Lib.hid hB
  clear hE hT hpk hR hB hnum
  go_enter Tryd.func130, Tryd.ntmps130
  go_wp2
  go_loopw [3, 10, 20] (fun q n i wr => ∃ j q' n' : Nat, ∃ σ' : PS, j <= ks.length /\ i = .int .i64 j /\ q = .int .i64 q' /\ n = .int .i64 n' /\ n' + nodesAll (ks.drop j) <= c.lim /\ q' <= c.s.data.toList.length /\ Hid (pk g c.s.data.toList c.hk m (.seq (ks.drop j) n') q' σ' = some r) /\ Hid (Bound c.s.data.toList.length σ') /\ Par c wr σ' /\ Keeps c w wr) (fun _ _ i _ => ks.length - (intOf i).toNat)
  case atStart => exact ⟨0, p, num + 1, σ, by omega, rfl, rfl, by go_num, hnum', hp, HPK, HB, hpar, hkp⟩
  case round =>
    clear hpar hkp h hp
    obtain ⟨j, q, n, σ', hj, rfl, rfl, rfl, hn, hq, HP, HB', hpar', hk'⟩ := hrel
    have hzr := hk'.size
    by_cases hjk : j < ks.length
    · have hbw : Below c.B w wr := hk'.below (by omega) hb2 hb3 hb1
      obtain ⟨ad, k', a', b', c', d', t', ks', A', cp', rfl, hab, hej, hE', ⟨e0, e1, e2, e3, e4, e5, e6⟩⟩ := (HE.out.on hbw).kid hjk
      have hpk' := HP.out
      rw [drop_of hej] at hpk' hn
      rw [nodesAll] at hn
      cases m with
      | zero => cases hpk'
      | succ m' =>
      simp only [pk] at hpk'
      cases he : pk g c.s.data.toList c.hk m' (.try_ (.mk k' a' b' c' d' t' ks') n) q σ' with
      | none => rw [he] at hpk'; cases hpk'
      | some r1 =>
      obtain ⟨o, σ1⟩ := r1
      rw [he] at hpk'
      have hbd := pk_bound _ _ _ _ _ _ _ _ _ he hq HB'.out
      have hcall := fun W (hW : Below wr.heap.size wr W) => HT.out.le (Nat.le_succ m') _ n q σ' (o, σ1) _ W he (hE'.on (hW.mono (by omega))) (HRR.out _ (List.mem_of_getElem? hej)) (by omega) hq HB'.out (hpar'.below hok hW)
      have hcn := fun W (hW : Below c.B wr W) => countK_any _ _ W ((hE'.on hW).keep (by have := hW.size; omega) fun _ _ => rfl) (by omega)
      have HCN := Lib.hid hcn
      have HC := Lib.hid hcall
      have HPQ := Lib.hid hpk'
      have HBD := Lib.hid hbd
      clear hcn hcall hpk' hbd he hej hE' hpar'
      go_wp2_with fail
      refine (HC.out _ bl).mono ?_
      rintro e' w2 ⟨⟨z, rfl, hz⟩, h1, h2⟩
      have hbx : Blk w2 wr.heap.size 27 #[.int .i64 k', .int .u64 a', .int .u64 b', .int .u64 c', .int .u64 d', .string t', .slice A' ks'.length cp'] := h2.box (blk_at rfl) (by decide) (by have := hok.P; omega) (by have := hok.M; omega)
      have hk2 : Keeps c w w2 := (hk'.alloc _).trans h2
      cases o with
      | none =>
        have hr : r = (none, σ1) := by have := HPQ.out; simp only [Option.some.injEq] at this; exact this.symm
        subst hr
        go_wp2
        go_ret2
        exact ⟨⟨0, rfl, fun tq ht => by cases ht⟩, h1, hk2⟩
      | some tq =>
        obtain rfl := hz tq rfl
        have x0 : w2.cell? ⟨wr.heap.size, 0, none⟩ = some (.int .i64 k') := hbx.cell 0; have x1 : w2.cell? ⟨wr.heap.size, 1, none⟩ = some (.int .u64 a') := hbx.cell 1; have x2 : w2.cell? ⟨wr.heap.size, 2, none⟩ = some (.int .u64 b') := hbx.cell 2; have x3 : w2.cell? ⟨wr.heap.size, 3, none⟩ = some (.int .u64 c') := hbx.cell 3; have x4 : w2.cell? ⟨wr.heap.size, 4, none⟩ = some (.int .u64 d') := hbx.cell 4; have x5 : w2.cell? ⟨wr.heap.size, 5, none⟩ = some (.string t') := hbx.cell 5; have x6 : w2.cell? ⟨wr.heap.size, 6, none⟩ = some (.slice A' ks'.length cp') := hbx.cell 6
        have hbw2 : Below c.B wr w2 := ((Below.refl _ _).alloc (by omega) _).trans (h2.below (by simp; omega) hb2 hb3 hb1)
        go_wp2_with fail
        refine (HCN.out w2 hbw2).mono ?_
        rintro e' w3 ⟨rfl, hb3'⟩
        go_wp2
        go_roundw
        case rel => exact ⟨j + 1, tq, n + nodes (.mk k' a' b' c' d' t' ks'), σ1, by omega, by go_num, rfl, by go_num, by omega, HBD.out.1 tq rfl, Lib.hid (pk_le HPQ.out (Nat.le_succ _)), Lib.hid HBD.out.2, h1.below hok hb3', hk2.trans (Keeps.of_below hb3')⟩
        case measure => simp [intOf]; omega
    · obtain rfl : j = ks.length := by omega
      have hpk' := HP.out
      rw [List.drop_length] at hpk'
      have hr : r = (some q, σ') := by
        cases m with
        | zero => cases hpk'
        | succ m' => simp only [pk, Option.some.injEq] at hpk'; exact hpk'.symm
      subst hr
      go_wp2
      go_ret2
      exact ⟨⟨q, rfl, fun tq ht => by injection ht with ht; rw [ht]⟩, hpar', hk'⟩
noncomputable def leastN (p : Nat -> Prop) : Nat := @ite _ (∃ n, p n /\ ∀ k, p k -> n <= k) (Classical.propDecidable _) (Classical.epsilon fun n => p n /\ ∀ k, p k -> n <= k) 0
theorem leastN_spec {p : Nat -> Prop} (h : ∃ n, p n) : p (leastN p) /\ ∀ k, p k -> leastN p <= k := by
  have hm : ∃ n, p n /\ ∀ k, p k -> n <= k := by
    obtain ⟨n, hn⟩ := h
    induction n using Nat.strongRecOn with
    | _ n ih =>
      by_cases hk : ∃ k, k < n /\ p k
      · obtain ⟨k, hk, hp⟩ := hk
        exact ih k hk hp
      · exact ⟨n, hn, fun k hp => Nat.le_of_not_lt fun h => hk ⟨k, h, hp⟩⟩
  unfold leastN
  rw [if_pos hm]
  exact Classical.epsilon_spec hm
structure RepI (c : PC) (g : List Rl) (e : Ex) (num m : Nat) (r : Option Nat × PS) (w : World) (bk : Nat) (bc : Array Value) (f : Nat) (q : Nat) (σ' : PS) (wr : World) : Prop where
  le : f <= m
  pk : Hid (pk g c.s.data.toList c.hk f (.rep e num) q σ' = some r)
  pos : q <= c.s.data.toList.length
  bound : Bound c.s.data.toList.length σ'
  par : Par c wr σ'
  keeps : Keeps c w wr
  box : Blk wr bk 27 bc
def RepR (c : PC) (g : List Rl) (e : Ex) (num m : Nat) (r : Option Nat × PS) (w : World) (bk : Nat) (bc : Array Value) (v : Value) (wr : World) (f : Nat) : Prop := ∃ (q : Nat) (σ' : PS), v = .int .i64 q /\ RepI c g e num m r w bk bc f q σ' wr
theorem single_any {c : PC} (hok : c.Ok) {g : List Rl} {m : Nat} (hT : DoesTry c g m) (k a b d1 d2 : Int) (t : ByteArray) (e : Ex) (num p : Nat) (σ : PS) (r : Option Nat × PS) (cs : List Value) (w : World) (h7 : 7 <= k) (h11 : k <= 11)
    (hpk : pk g c.s.data.toList c.hk m (.one k e num) p σ = some r) (hE : ExIs w c.B (.mk k a b d1 d2 t [e]) cs) (hR : RtW g e) (hnum : num + 1 + nodes e <= c.lim) (hp : p <= c.s.data.toList.length) (hB : Bound c.s.data.toList.length σ) (h : Par c w σ) :
    Calls Tryd.prog 131 #[.pointer (some ⟨c.P, 0, none⟩), .agg cs.toArray, .int .i64 num, .int .i64 p] w (Went c w r) := by
  have hsz := h.size
  have hb1 := hok.Bb
  have hb2 := hok.BP
  have hb3 := hok.BM
  have hbP := hok.P
  have hbM := hok.M
  obtain ⟨ht, KA, kcp, rfl, hkc, hkm, _⟩ := hE.shape
  have hkl : ([e] : List Ex).length = 1 := rfl
  rw [hkl] at hE hkc ⊢
  clear hkl
  unfold exCells
  obtain ⟨ad, k', a', b', c', d', t', ks', A', cp', rfl, hab, hej, hE', hS⟩ := hE.kid (j := 0) (by simp)
  obtain rfl : e = .mk k' a' b' c' d' t' ks' := by simpa using hej
  rw [Nat.zero_mul] at hS
  have hS1 : Seven w ad k' a' b' c' d' t' A' ks'.length cp' := hS
  have hsv := fun W (hW : Below c.B w W) => hS1.keep (w' := W) fun q hq => hW.cell (by rw [hq]; exact hab)
  have hal : Below w.heap.size w (w.alloc (.cells #[.int .i64 k, .int .u64 a, .int .u64 b, .int .u64 d1, .int .u64 d2, .string t, .slice (some ad) 1 kcp] 27)) := (Below.refl _ _).alloc (Nat.le_refl _) _
  have hpar := h.below hok hal
  have hkp : Keeps c w (w.alloc (.cells #[.int .i64 k, .int .u64 a, .int .u64 b, .int .u64 d1, .int .u64 d2, .string t, .slice (some ad) 1 kcp] 27)) := Keeps.of_below hal
  have hm8 : (1 : Nat) <= kcp := hkc
  unfold maxLen at hkm
  cases m with
  | zero => cases hpk
  | succ m =>
  simp only [pk] at hpk
  cases he : pk g c.s.data.toList c.hk m (.try_ (.mk k' a' b' c' d' t' ks') (num + 1)) p σ with
  | none => rw [he] at hpk; cases hpk
  | some r1 =>
  obtain ⟨o, σ1⟩ := r1
  rw [he] at hpk
  have hbd := pk_bound _ _ _ _ _ _ _ _ _ he hp hB
  have hE2 := hE'
  have hcall := fun (f q : Nat) (σ' : PS) (r1 : Option Nat × PS) (W : World) (hf : f <= m) (he : pk g c.s.data.toList c.hk f (.try_ (.mk k' a' b' c' d' t' ks') (num + 1)) q σ' = some r1) (hq : q <= c.s.data.toList.length) (hB' : Bound c.s.data.toList.length σ') (hPW : Par c W σ') (hKW : Keeps c w W) =>
    (hT.le (Nat.le_trans hf (Nat.le_succ m))) _ (num + 1) q σ' r1 _ W he (hE2.on (hKW.below (by omega) (by omega) (by omega) (by omega))) hR hnum hq hB' hPW
  have hc0 := hcall m p σ (o, σ1) _ (Nat.le_refl m) he hp hB hpar hkp
  unfold exCells at hcall hc0
  rw [show ((num + 1 : Nat) : Int) = (num : Int) + 1 by omega] at hcall hc0
  have hadl : ad.block < w.heap.size := by omega
  obtain ⟨s0, s1, s2, s3, s4, s5, s6⟩ := hS1
  have HC := Lib.hid hcall
  have HC0 := Lib.hid hc0
  have HPK := Lib.hid hpk
  have HBD := Lib.hid hbd
  have HSV := Lib.hid hsv
  have hnum' : num + 1 + nodes (.mk k' a' b' c' d' t' ks') <= 1000000000000 := Nat.le_trans hnum hok.lim
  generalize nodes (.mk k' a' b' c' d' t' ks') = nn at hnum'
  clear hE hE' hE2 hT hcall hc0 hpk hbd he hej hR hB h hp hS hsv hnum
  go_enter Tryd.func131, Tryd.ntmps131
  go_wp2_with fail
  refine HC0.out.mono ?_
  rintro e' w2 ⟨⟨z, rfl, hz⟩, h1, h2⟩
  have hbx : Blk w2 w.heap.size 27 #[.int .i64 k, .int .u64 a, .int .u64 b, .int .u64 d1, .int .u64 d2, .string t, .slice (some ad) 1 kcp] := h2.box (blk_at rfl) (by decide) (by omega) (by omega)
  have hk2 : Keeps c w w2 := hkp.trans h2
  have x0 : w2.cell? ⟨w.heap.size, 0, none⟩ = some (.int .i64 k) := hbx.cell 0
  clear s0 s1 s2 s3 s4 s5 s6
  have hk5 : k = 7 \/ k = 8 \/ k = 9 \/ k = 10 \/ k = 11 := by omega
  cases o with
  | none =>
    have hr : r = (if k = 8 \/ k = 10 then none else some p, σ1) := by have := HPK.out; simp only [Option.some.injEq] at this; exact this.symm
    clear HC HPK HBD HSV hkp hpar hal HC0
    have hend : ∀ W, W = w2 \/ W = w2.drew -> Par c W σ1 /\ Keeps c w W := fun W hW => by
      rcases hW with rfl | rfl
      · exact ⟨h1, hk2⟩
      · exact ⟨h1.drew, hk2.drew⟩
    rcases hk5 with rfl | rfl | rfl | rfl | rfl
    · have hr' : r = (some p, σ1) := by rw [hr]; rfl
      subst hr'
      go_wp2
      refine wp_region_q (fun W => Par c W σ1 /\ Keeps c w W /\ Blk W w.heap.size 27 #[.int .i64 _, .int .u64 a, .int .u64 b, .int .u64 d1, .int .u64 d2, .string t, .slice (some ad) 1 kcp]) (by kernel_rfl) (by kernel_rfl) ⟨h1.drew, hk2.drew, hbx.drew⟩ ?_
      repeat
        (first | ((with_reducible apply QW.free rfl); · (intro W hW; obtain ⟨q1, q2, q3⟩ := hW; have t0 := q3.cell 0; go_simp; first | rfl)) | ((with_reducible apply QW.skip rfl); · (first | exact ⟨_, _, rfl, rfl, .inl rfl⟩ | exact ⟨_, _, rfl, rfl, .inr rfl⟩)) | ((with_reducible apply QW.take rfl); (· exact ⟨_, rfl, rfl⟩); (· (intro W hW; obtain ⟨q1, q2, q3⟩ := hW; have t0 := q3.cell 0; go_simp; first | rfl)))); (try simp only [Act.put, List.setIfInBounds_toArray, List.set_cons_zero, List.set_cons_succ])
      refine QW.nil ?_
      rintro w3 ⟨q1, q2, q3⟩
      go_wp2
      go_ret2
      exact ⟨⟨p, rfl, fun tq ht => by injection ht with ht; rw [ht]⟩, q1, q2⟩
    · have hr' : r = (none, σ1) := by rw [hr]; rfl
      subst hr'
      go_wp2
      refine wp_region_q (fun W => Par c W σ1 /\ Keeps c w W /\ Blk W w.heap.size 27 #[.int .i64 _, .int .u64 a, .int .u64 b, .int .u64 d1, .int .u64 d2, .string t, .slice (some ad) 1 kcp]) (by kernel_rfl) (by kernel_rfl) ⟨h1.drew, hk2.drew, hbx.drew⟩ ?_
      repeat
        (first | ((with_reducible apply QW.free rfl); · (intro W hW; obtain ⟨q1, q2, q3⟩ := hW; have t0 := q3.cell 0; go_simp; first | rfl)) | ((with_reducible apply QW.skip rfl); · (first | exact ⟨_, _, rfl, rfl, .inl rfl⟩ | exact ⟨_, _, rfl, rfl, .inr rfl⟩)) | ((with_reducible apply QW.take rfl); (· exact ⟨_, rfl, rfl⟩); (· (intro W hW; obtain ⟨q1, q2, q3⟩ := hW; have t0 := q3.cell 0; go_simp; first | rfl)))); (try simp only [Act.put, List.setIfInBounds_toArray, List.set_cons_zero, List.set_cons_succ])
      refine QW.nil ?_
      rintro w3 ⟨q1, q2, q3⟩
      go_wp2
      go_ret2
      exact ⟨⟨p, rfl, fun tq ht => by cases ht⟩, q1, q2⟩
    · have hr' : r = (some p, σ1) := by rw [hr]; rfl
      subst hr'
      go_wp2
      refine wp_region_q (fun W => Par c W σ1 /\ Keeps c w W /\ Blk W w.heap.size 27 #[.int .i64 _, .int .u64 a, .int .u64 b, .int .u64 d1, .int .u64 d2, .string t, .slice (some ad) 1 kcp]) (by kernel_rfl) (by kernel_rfl) ⟨h1.drew, hk2.drew, hbx.drew⟩ ?_
      repeat
        (first | ((with_reducible apply QW.free rfl); · (intro W hW; obtain ⟨q1, q2, q3⟩ := hW; have t0 := q3.cell 0; go_simp; first | rfl)) | ((with_reducible apply QW.skip rfl); · (first | exact ⟨_, _, rfl, rfl, .inl rfl⟩ | exact ⟨_, _, rfl, rfl, .inr rfl⟩)) | ((with_reducible apply QW.take rfl); (· exact ⟨_, rfl, rfl⟩); (· (intro W hW; obtain ⟨q1, q2, q3⟩ := hW; have t0 := q3.cell 0; go_simp; first | rfl)))); (try simp only [Act.put, List.setIfInBounds_toArray, List.set_cons_zero, List.set_cons_succ])
      refine QW.nil ?_
      rintro w3 ⟨q1, q2, q3⟩
      go_wp2
      go_ret2
      exact ⟨⟨p, rfl, fun tq ht => by injection ht with ht; rw [ht]⟩, q1, q2⟩
    · have hr' : r = (none, σ1) := by rw [hr]; rfl
      subst hr'
      go_wp2
      go_ret2
      exact ⟨⟨p, rfl, fun tq ht => by cases ht⟩, h1, hk2⟩
    · have hr' : r = (some p, σ1) := by rw [hr]; rfl
      subst hr'
      go_wp2
      go_ret2
      exact ⟨⟨p, rfl, fun tq ht => by injection ht with ht; rw [ht]⟩, h1, hk2⟩
  | some tq =>
    obtain rfl := hz tq rfl
    have hto := HBD.out.1 tq rfl
    have hb1' := HBD.out.2
    rcases (by omega : k = 10 \/ k = 11 \/ k = 9 \/ (k = 7 \/ k = 8)) with rfl | rfl | rfl | hk78
    · have hr' : r = (some p, σ1) := by have := HPK.out; simpa using this.symm
      subst hr'
      go_wp2
      go_ret2
      exact ⟨⟨p, rfl, fun tq ht => by injection ht with ht; rw [ht]⟩, h1, hk2⟩
    · have hr' : r = (none, σ1) := by have := HPK.out; simpa using this.symm
      subst hr'
      go_wp2
      go_ret2
      exact ⟨⟨p, rfl, fun tq ht => by cases ht⟩, h1, hk2⟩
    · have hr' : r = (some tq, σ1) := by have := HPK.out; simpa using this.symm
      subst hr'
      go_wp2
      go_loopw [10, 12, 13] (fun v _ _ wr => v = .int .i64 tq /\ Par c wr σ1 /\ Keeps c w wr /\ Blk wr w.heap.size 27 #[.int .i64 9, .int .u64 a, .int .u64 b, .int .u64 d1, .int .u64 d2, .string t, .slice (some ad) 1 kcp]) (fun _ _ _ _ => 0)
      case atStart => exact ⟨rfl, h1, hk2, hbx⟩
      case round =>
        clear h1 hk2 hbx x0
        obtain ⟨rfl, h1, hk2, hbx⟩ := hrel
        have x0 : wr.cell? ⟨w.heap.size, 0, none⟩ = some (.int .i64 9) := hbx.cell 0
        go_wp2
        go_ret2
        exact ⟨⟨tq, rfl, fun tq ht => by injection ht with ht; rw [ht]⟩, h1, hk2⟩
    · have hne9 : (k != 9) = true := by rw [bne_iff_ne]; omega
      have hne10 : (k == 10) = false := by rw [beq_eq_false_iff_ne]; omega
      have hne11 : (k == 11) = false := by rw [beq_eq_false_iff_ne]; omega
      have hpk : Hid (pk g c.s.data.toList c.hk m (.rep (.mk k' a' b' c' d' t' ks') (num + 1)) tq σ1 = some r) := by
        have := HPK.out
        simp only at this
        rw [if_neg (by omega), if_neg (by omega), if_neg (by omega)] at this
        exact this
      clear hk78 hk5 HPK HBD HC0
      have H0 : RepI c g (.mk k' a' b' c' d' t' ks') (num + 1) m r w w.heap.size #[.int .i64 k, .int .u64 a, .int .u64 b, .int .u64 d1, .int .u64 d2, .string t, .slice (some ad) 1 kcp] m tq σ1 w2 := ⟨Nat.le_refl _, hpk, hto, hb1', h1, hk2, hbx⟩
      go_wp2
      go_loopw [10, 12, 13] (fun v _ _ wr => ∃ f, RepR c g (.mk k' a' b' c' d' t' ks') (num + 1) m r w w.heap.size #[.int .i64 k, .int .u64 a, .int .u64 b, .int .u64 d1, .int .u64 d2, .string t, .slice (some ad) 1 kcp] v wr f) (fun v _ _ wr => leastN (RepR c g (.mk k' a' b' c' d' t' ks') (num + 1) m r w w.heap.size #[.int .i64 k, .int .u64 a, .int .u64 b, .int .u64 d1, .int .u64 d2, .string t, .slice (some ad) 1 kcp] v wr))
      case atStart => exact ⟨m, tq, σ1, rfl, H0⟩
      case round =>
        clear h1 hk2 hbx x0 H0 hpk hto hb1'
        obtain ⟨hf, hleast⟩ := leastN_spec hrel
        clear hrel
        clear hleast
        generalize hL : leastN _ = f at hf
        obtain ⟨q, σ', rfl, H⟩ := hf
        have HL := Lib.hid hL
        clear hL
        have x0 : wr.cell? ⟨w.heap.size, 0, none⟩ = some (.int .i64 k) := H.box.cell 0
        have x6 : wr.cell? ⟨w.heap.size, 6, none⟩ = some (.slice (some ad) 1 kcp) := H.box.cell 6
        obtain ⟨s0, s1, s2, s3, s4, s5, s6⟩ := HSV.out wr (H.keeps.below (by omega) (by omega) (by omega) (by omega))
        have hpk := H.pk.out
        cases f with
        | zero => cases hpk
        | succ f =>
        simp only [pk] at hpk
        cases he : pk g c.s.data.toList c.hk f (.try_ (.mk k' a' b' c' d' t' ks') (num + 1)) q σ' with
        | none => rw [he] at hpk; cases hpk
        | some r1 =>
        obtain ⟨o, σ2⟩ := r1
        rw [he] at hpk
        have hle := H.le
        have hbd := pk_bound _ _ _ _ _ _ _ _ _ he H.pos H.bound
        have hc0 := HC.out f q σ' (o, σ2) wr (by omega) he H.pos H.bound H.par H.keeps
        have HC0 := Lib.hid hc0
        have HPK := Lib.hid hpk
        have HBD := Lib.hid hbd
        have hkw := H.keeps
        have hxw := H.box
        clear hc0 hpk hbd he H
        go_wp2_with fail
        refine HC0.out.mono ?_
        rintro e' w3 ⟨⟨z, rfl, hz⟩, h1, h2⟩
        have hbx : Blk w3 w.heap.size 27 #[.int .i64 k, .int .u64 a, .int .u64 b, .int .u64 d1, .int .u64 d2, .string t, .slice (some ad) 1 kcp] := h2.box hxw (by decide) (by omega) (by omega)
        have hk2 : Keeps c w w3 := hkw.trans h2
        clear s0 s1 s2 s3 s4 s5 s6
        cases o with
        | none =>
          have hr' : r = (some q, σ2) := by have := HPK.out; simpa using this.symm
          subst hr'
          go_wp2
          go_ret2
          exact ⟨⟨q, rfl, fun tq ht => by injection ht with ht; rw [ht]⟩, h1, hk2⟩
        | some to' =>
          obtain rfl := hz to' rfl
          have hnext : RepR c g (.mk k' a' b' c' d' t' ks') (num + 1) m r w w.heap.size #[.int .i64 k, .int .u64 a, .int .u64 b, .int .u64 d1, .int .u64 d2, .string t, .slice (some ad) 1 kcp] (.int .i64 to') w3 f := ⟨to', σ2, rfl, by omega, HPK, HBD.out.1 to' rfl, HBD.out.2, h1, hk2, hbx⟩
          go_wp2
          go_roundw
          case rel => exact ⟨f, hnext⟩
          case measure => rw [HL.out]; exact Nat.lt_of_le_of_lt ((leastN_spec ⟨f, hnext⟩).2 f hnext) (Nat.lt_succ_self f)
end Go.Proofs.YtndhbdbfjkmloaaDoor
