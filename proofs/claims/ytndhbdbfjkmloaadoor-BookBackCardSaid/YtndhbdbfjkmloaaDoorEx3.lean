/- Expressions in memory. -/
import Derived.Test.YtndhbdbfjkmloaaDoorBase
namespace Go.Proofs.YtndhbdbfjkmloaaDoor
open Go.RowKit

/-- an expression: kind, the four words of its set, its text, its kids -/
inductive Ex where
  | mk (k a b c d : Int) (t : ByteArray) (ks : List Ex)

theorem Ex.ind {P : Ex → Prop} (h : ∀ k a b c d t ks, (∀ e ∈ ks, P e) → P (.mk k a b c d t ks)) (e : Ex) : P e := by
  refine Ex.rec (motive_1 := P) (motive_2 := fun ks => ∀ e ∈ ks, P e) ?_ ?_ ?_ e
  · exact fun k a b c d t ks ih => h k a b c d t ks ih
  · exact fun e he => by cases he
  · intro e es h1 h2 e' he
    rcases List.mem_cons.1 he with rfl | he
    · exact h1
    · exact h2 _ he

/-- the cells of an expression, and that all below it can be read below block B -/
inductive ExIs (w : World) (B : Nat) : Ex → List Value → Prop
  | mk (k a b c d : Int) (t : ByteArray) (ks : List Ex) (A : Option Addr) (cp : Nat) (row : Nat → List Value) :
      t.size ≤ maxLen → ks.length ≤ cp → cp ≤ maxLen → (A = none → cp = 0) → (0 < ks.length → ∃ ad : Addr, A = some ad ∧ ad.block < B) →
      (∀ i e, ks[i]? = some e → ExIs w B e (row i)) →
      (∀ i e ad, ks[i]? = some e → A = some ad → ∀ j u, (row i)[j]? = some u → w.cell? ((ad.add (i * 7)).add j) = some u) →
      ExIs w B (.mk k a b c d t ks) [.int .i64 k, .int .u64 a, .int .u64 b, .int .u64 c, .int .u64 d, .string t, .slice A ks.length cp]

theorem ExIs.keep {w w' : World} {B B' : Nat} {e : Ex} {cs : List Value} (h : ExIs w B e cs) (hB : B ≤ B') (hk : ∀ p : Addr, p.block < B → w'.cell? p = w.cell? p) : ExIs w' B' e cs := by
  induction h with
  | mk k a b c d t ks A cp row ht hl hm hn hb hr hc ih =>
    refine .mk k a b c d t ks A cp row ht hl hm hn (fun h0 => ?_) ih fun i e ad he hA j u hu => ?_
    · obtain ⟨ad, e, h1⟩ := hb h0
      exact ⟨ad, e, Nat.lt_of_lt_of_le h1 hB⟩
    · obtain ⟨ad', e', h1⟩ := hb (by have := getElem?_lt he; omega)
      rw [hA] at e'
      injection e' with e'
      subst e'
      rw [hk _ (by rw [add_block, add_block]; exact h1)]
      exact hc i e ad he hA j u hu
theorem ExIs.on {w w' : World} {B : Nat} {e : Ex} {cs : List Value} (h : ExIs w B e cs) (hb : Below B w w') : ExIs w' B e cs := h.keep (Nat.le_refl _) fun _ => hb.cell
end Go.Proofs.YtndhbdbfjkmloaaDoor
