/- Jobs in memory: the jobs that come in, and the tasks while they have their turns. -/
import Derived.Test.YtlamphneimpdlaaJbB
namespace Go.Proofs.Ytlamphneimpdlaa
open Go.RowKit

/-- a job that came in -/
structure Jb where
  A : Option Addr
  g : List Rl
  cp : Nat
  row : Nat → List Value
  a : ByteArray
  n : Int
  bud : Int
def Jb.cells (j : Jb) : List Value := [.slice j.A j.g.length j.cp, .string j.a, .int .i64 j.n, .int .i64 j.bud]
structure Jb.In (w : World) (j : Jb) : Prop where
  gr : GrIs w w.heap.size j.g j.A j.cp j.row
  wf : ∀ r ∈ j.g, WfE r.2
  az : j.a.size ≤ 140737488351232
  n : I64 j.n
  bud : I64 j.bud
theorem Jb.In.grow {w w' : World} {j : Jb} (h : j.In w) (hb : Below w.heap.size w w') : j.In w' := ⟨h.gr.grow hb, h.wf, h.az, h.n, h.bud⟩
/-- may it be run? -/
structure Jb.Ok (j : Jb) : Prop where
  look : LookOk j.g j.a j.n
  lo : 0 ≤ j.bud
  hi : j.bud ≤ 1048576
noncomputable def Jb.after (j : Jb) (s r : Nat) : Jst := turnsJ (accG j.g) j.a.data.toList j.n.toNat s r (startJ j.bud.toNat)
def Jb.task (j : Jb) (V : Option Addr × Nat) (x : Jst) : Array Value := taskC j.A j.g.length j.cp j.a j.n j.bud V.1 V.2 x
def fnV (V : Option Addr × Nat) (x : Jst) : Value := .slice V.1 x.found.length V.2

theorem own_own_ne {w : World} {base base' size size' n n' : Nat} {e e' : TypeId} {v v' : Value} {xs xs' : List Value} (h : w.ownsRow base e size v n xs) (h' : w.ownsRow base' e' size' v' n' xs') (hne : e ≠ e') : v.ownBlock = none ∨ v.ownBlock ≠ v'.ownBlock := by
  rcases h.2 with ⟨rfl, _⟩ | ⟨g, cap, cur, rfl, _, h1, _⟩
  · exact .inl rfl
  · refine .inr fun e1 => ?_
    rcases h'.2 with ⟨rfl, _⟩ | ⟨g', cap', cur', rfl, _, h2, _⟩
    · cases e1
    · simp only [Value.ownBlock, Option.some.injEq] at e1
      subst e1
      rw [h1] at h2
      simp only [Option.some.injEq, Obj.cells.injEq] at h2
      exact hne h2.2.1

/-- the tasks: where each lies and what it has found, each apart from the others -/
structure Tk (js : List Jb) (st : Nat → Jst) (base : Nat) (ps : List Nat) (Vs : Nat → Option Addr × Nat) (w : World) : Prop where
  len : ps.length ≤ js.length
  blk : ∀ (i : Nat) (j : Jb) (p : Nat), js[i]? = some j → ps[i]? = some p → Blk w p 146 (j.task (Vs i) (st i))
  own : ∀ i, i < ps.length → w.ownsRow base 9 1 (fnV (Vs i) (st i)) (st i).found.length ((st i).found.map Value.string)
  apart : ∀ i k, i < ps.length → k < ps.length → i ≠ k → (fnV (Vs i) (st i)).ownBlock = none ∨ (fnV (Vs i) (st i)).ownBlock ≠ (fnV (Vs k) (st k)).ownBlock
  nodup : ∀ (i k p : Nat), ps[i]? = some p → ps[k]? = some p → i = k
  low : ∀ (i p : Nat), ps[i]? = some p → base ≤ p
theorem Tk.nil (js : List Jb) (st : Nat → Jst) (base : Nat) (Vs : Nat → Option Addr × Nat) (w : World) : Tk js st base [] Vs w :=
  ⟨Nat.zero_le _, fun i _ _ _ h => by simp at h, fun i h => by simp at h, fun i _ h => by simp at h, fun i _ _ h => by simp at h, fun i _ h => by simp at h⟩
theorem Tk.below {js : List Jb} {st : Nat → Jst} {base : Nat} {ps : List Nat} {Vs : Nat → Option Addr × Nat} {w w' : World} (h : Tk js st base ps Vs w) (hb : Below w.heap.size w w') : Tk js st base ps Vs w' :=
  ⟨h.len, fun i j p h1 h2 => (h.blk i j p h1 h2).below hb (h.blk i j p h1 h2).lt, fun i hi => own_below (h.own i hi) hb, h.apart, h.nodup, h.low⟩
/-- a row of another type grows -/
theorem Tk.grown {js : List Jb} {st : Nat → Jst} {base : Nat} {ps : List Nat} {Vs : Nat → Option Addr × Nat} {w w' : World} (h : Tk js st base ps Vs w) {b size n : Nat} {e : TypeId} {v : Value} {xs : List Value} (ho : w.ownsRow b e size v n xs) (h1 : 146 ≠ e) (h2 : 9 ≠ e) (hg : w.grownBy w' v.ownBlock) : Tk js st base ps Vs w' :=
  ⟨h.len, fun i j p q1 q2 => (h.blk i j p q1 q2).grown hg (own_ne_t (h.blk i j p q1 q2) ho h1), fun i hi => (h.own i hi).kept hg (own_own_ne (h.own i hi) ho h2), h.apart, h.nodup, h.low⟩
/-- one task more -/
theorem Tk.push {js : List Jb} {st : Nat → Jst} {base : Nat} {ps : List Nat} {w : World} {p : Nat} {j : Jb} (h : Tk js st base ps (fun _ => (none, 0)) w) (hj : js[ps.length]? = some j) (hs : (st ps.length).found = []) (hb : base ≤ p) (hp : p ∉ ps) (hB : Blk w p 146 (j.task (none, 0) (st ps.length))) : Tk js st base (ps ++ [p]) (fun _ => (none, 0)) w := by
  have hget : ∀ (i q : Nat), (ps ++ [p])[i]? = some q → (i < ps.length ∧ ps[i]? = some q) ∨ (i = ps.length ∧ q = p) := fun i q hq => by
    rcases Nat.lt_or_ge i ps.length with h1 | h1
    · rw [List.getElem?_append_left h1] at hq
      exact .inl ⟨h1, hq⟩
    · rw [List.getElem?_append_right h1] at hq
      have h2 : i - ps.length = 0 := by
        rcases Nat.eq_zero_or_pos (i - ps.length) with h3 | h3
        · exact h3
        · rw [List.getElem?_eq_none (by simp; omega)] at hq; cases hq
      rw [h2] at hq
      exact .inr ⟨by omega, by simpa using hq.symm⟩
  have hlt : ps.length < js.length := getElem?_lt hj
  have hown : ∀ i, i < (ps ++ [p]).length → w.ownsRow base 9 1 (fnV (none, 0) (st i)) (st i).found.length ((st i).found.map Value.string) := fun i hi => by
    rcases Nat.lt_or_ge i ps.length with h1 | h1
    · exact h.own i h1
    · obtain rfl : i = ps.length := by simp at hi; omega
      unfold fnV
      rw [hs]
      exact World.ownsRow_nil _ _ _ _
  refine ⟨by simp; omega, fun i j' q h1 h2 => ?_, hown, fun i k _ _ _ => .inl rfl, fun i k q h1 h2 => ?_, fun i q h1 => ?_⟩
  · rcases hget i q h2 with ⟨_, h3⟩ | ⟨rfl, rfl⟩
    · exact h.blk i j' q h1 h3
    · rw [hj] at h1; cases h1; exact hB
  · rcases hget i q h1 with ⟨h3, h4⟩ | ⟨h3, h4⟩
    · rcases hget k q h2 with ⟨h5, h6⟩ | ⟨h5, h6⟩
      · exact h.nodup i k q h4 h6
      · subst h6; exact absurd (List.mem_of_getElem? h4) hp
    · rcases hget k q h2 with ⟨h5, h6⟩ | ⟨h5, h6⟩
      · subst h4; exact absurd (List.mem_of_getElem? h6) hp
      · omega
  · rcases hget i q h1 with ⟨_, h4⟩ | ⟨_, rfl⟩
    · exact h.low i q h4
    · exact hb
def upd {α : Type} (f : Nat → α) (i : Nat) (x : α) : Nat → α := fun k => if k = i then x else f k
theorem upd_same {α : Type} (f : Nat → α) (i : Nat) (x : α) : upd f i x i = x := by simp [upd]
theorem upd_other {α : Type} (f : Nat → α) {i k : Nat} (x : α) (h : k ≠ i) : upd f i x k = f k := by simp [upd, h]
/-- a task has its turn -/
theorem Tk.work {js : List Jb} {st : Nat → Jst} {base : Nat} {ps : List Nat} {Vs : Nat → Option Addr × Nat} {w w' : World} (h : Tk js st base ps Vs w) {i p : Nat} {j : Jb} (hj : js[i]? = some j) (hp : ps[i]? = some p) {x' : Jst} {e : Ending}
    (hw : WorkQ j.A j.g.length j.cp j.a j.n j.bud base p (Vs i).1 (Vs i).2 (st i).found.length x' w e w') (hbase : base ≤ w.heap.size) : e = .returned (.tuple #[]) ∧ ∃ Vs', Tk js (upd st i x') base ps Vs' w' ∧ Below base w w' ∧ But p (fnV (Vs i) (st i)).ownBlock w w' := by
  obtain ⟨rfl, V', c', hB, ho, hbut, hat⟩ := hw
  have hi := getElem?_lt hp
  have hBi := h.blk i j p hj hp
  have hoi := h.own i hi
  refine ⟨rfl, upd Vs i (V', c'), ⟨h.len, fun k jk q h1 h2 => ?_, fun k hk => ?_, fun k m hk hm hkm => ?_, h.nodup, h.low⟩, hbut.below hbase (h.low i p hp) (fun k hk => (hoi.lt k hk).1), hbut⟩
  · by_cases hki : k = i
    · subst hki
      rw [hj] at h1; cases h1
      rw [hp] at h2; cases h2
      rw [upd_same, upd_same]
      exact hB
    · rw [upd_other _ _ hki, upd_other _ _ hki]
      have hBk := h.blk k jk q h1 h2
      exact hbut.blk hBk (fun e => hki (h.nodup k i p (e ▸ h2) hp)) (own_ne_t hBk hoi (by decide))
  · by_cases hki : k = i
    · subst hki
      rw [upd_same, upd_same]
      exact ho
    · rw [upd_other _ _ hki, upd_other _ _ hki]
      exact hbut.own (h.own k hk) (fun e => own_ne_t hBi (h.own k hk) (by decide) e.symm) (h.apart k i hk hi hki)
  · have hfar : ∀ q, q < ps.length → q ≠ i → (fnV (Vs q) (st q)).ownBlock = none ∨ (fnV (Vs q) (st q)).ownBlock ≠ (fnV (V', c') x').ownBlock := fun q hq hqi => by
      rcases h.apart q i hq hi hqi with h1 | h1
      · exact .inl h1
      · refine .inr fun e => ?_
        rcases hat with h2 | ⟨b, h2, h3⟩
        · exact h1 (e.trans h2)
        · have := ((h.own q hq).lt b (e.trans h2)).2
          omega
    by_cases hki : k = i
    · have hmi : m ≠ i := fun e => hkm (by rw [hki, e])
      rw [hki, upd_same, upd_same, upd_other _ _ hmi, upd_other _ _ hmi]
      rcases hfar m hm hmi with h1 | h1
      · cases h2 : (fnV (V', c') x').ownBlock with
        | none => exact .inl rfl
        | some b => exact .inr (by rw [h1]; simp)
      · exact .inr fun e => h1 e.symm
    · rw [upd_other _ _ hki, upd_other _ _ hki]
      by_cases hmi : m = i
      · rw [hmi, upd_same, upd_same]
        exact hfar k hk hki
      · rw [upd_other _ _ hmi, upd_other _ _ hmi]
        exact h.apart k m hk hm hkm
theorem Tk.congr {js : List Jb} {st st' : Nat → Jst} {base : Nat} {ps : List Nat} {Vs : Nat → Option Addr × Nat} {w : World} (h : Tk js st base ps Vs w) (he : ∀ i, i < ps.length → st i = st' i) : Tk js st' base ps Vs w :=
  ⟨h.len, fun i j p h1 h2 => by rw [← he i (getElem?_lt h2)]; exact h.blk i j p h1 h2, fun i hi => by rw [← he i hi]; exact h.own i hi, fun i k hi hk hn => by rw [← he i hi, ← he k hk]; exact h.apart i k hi hk hn, h.nodup, h.low⟩
end Go.Proofs.Ytlamphneimpdlaa
