/- Rules by other names: what pack.At answers; numbers stay of their width. Plain. -/
import Derived.Test.YtkmcnekjimobhaaRnP
import Derived.Test.YtkmcnekjimobhaaGF
import Derived.Test.YtkmcnekjimobhaaXD
namespace Go.Proofs.Ytkmcnekjimobhaa
open Go.RowKit

theorem at_rn {g : List Rl} (h0 : checkG g = 0) {i : Int} {s : ByteArray} {p : Int} {v v' : Option Nat} {x x' : Int} (h : AtR g i s p v x) (h' : AtR (rnG g) i s p v' x') : v = v' ∧ x = x' := by
  unfold AtR at h h'
  rw [rn_lookG h0, rnG_len] at h'
  rcases h with ⟨a1, a2, a3⟩ | ⟨a1, a2, a3, a4⟩ | ⟨a1, j, q, r, o, e1, e2, e3, e4, e5, e6, e7⟩
  · rcases h' with ⟨b1, b2, b3⟩ | ⟨b1, _⟩ | ⟨b1, _⟩
    · exact ⟨a2.trans b2.symm, a3.trans b3.symm⟩
    · exact absurd b1 a1
    · exact absurd b1 a1
  · rcases h' with ⟨b1, _⟩ | ⟨_, _, b3, b4⟩ | ⟨b1, j, q, r, o, e1, e2, e3, e4, _⟩
    · exact absurd a1 b1
    · exact ⟨a3.trans b3.symm, a4.trans b4.symm⟩
    · rw [rnG_at, Option.map_eq_some_iff] at e4
      obtain ⟨r0, e4, _⟩ := e4
      have := getElem?_lt e4
      omega
  · rcases h' with ⟨b1, _⟩ | ⟨b1, b2, _⟩ | ⟨b1, j', q', r', o', f1, f2, f3, f4, f5, f6, f7⟩
    · exact absurd a1 b1
    · have := getElem?_lt e4
      omega
    · obtain rfl : j = j' := by omega
      obtain rfl : q = q' := by omega
      rw [rnG_at, e4] at f4
      injection f4 with f4
      subst f4
      have R := right_of h0
      have := ((rn_sem R (R.rt r (List.mem_of_getElem? e4))).1 f5).eq e5
      subst this
      exact ⟨e6.trans f6.symm, e7.trans f7.symm⟩
theorem wf_rnE {f : ByteArray → ByteArray} {e : Ex} (h : WfE e) : WfE (rnE f e) := by
  induction h with
  | mk k a b c d t ks hk ha hb hc hd _ ih =>
    rw [rnE_mk]
    exact .mk _ _ _ _ _ _ _ hk ha hb hc hd fun x hx => by obtain ⟨e, he, rfl⟩ := List.mem_map.1 hx; exact ih e he
theorem wf_rnG {g : List Rl} (h : ∀ r ∈ g, WfE r.2) : ∀ r ∈ rnG g, WfE r.2 := fun r hr => by
  obtain ⟨r0, h0, rfl⟩ := List.mem_map.1 hr
  exact wf_rnE (h r0 h0)
theorem wfe_litR (t : ByteArray) : WfE (litE t) := .mk _ _ _ _ _ _ _ (by unfold I64; omega) (by unfold U64; omega) (by unfold U64; omega) (by unfold U64; omega) (by unfold U64; omega) (fun e h => by cases h)
theorem wf_xG (t : ByteArray) : ∀ r ∈ [(nameA, litE t)], WfE r.2 := fun r hr => by simp only [List.mem_singleton] at hr; subst hr; exact wfe_litR t
theorem x_look : lookG [(nameA, litE ⟨#[120]⟩)] ⟨#[120]⟩ = 0 := by decide +kernel
theorem x_well : wellG [(nameA, litE ⟨#[120]⟩)] = (0, 0) := by decide +kernel
theorem x_ev : ev [(nameA, litE ⟨#[120]⟩)] [120] 1 (litE ⟨#[120]⟩) 0 = some (some 1) := by decide +kernel
theorem x_at {v : Option Nat} {x : Int} (h : AtR [(nameA, litE ⟨#[120]⟩)] 0 ⟨#[120]⟩ 0 v x) : v = some 1 ∧ x = 0 := by
  rcases h with ⟨a1, _⟩ | ⟨_, a2, _⟩ | ⟨_, j, q, r, o, e1, e2, e3, e4, e5, e6, e7⟩
  · exact absurd x_look a1
  · exfalso
    rcases a2 with a2 | a2 | a2 | a2
    · omega
    · simp at a2
    · omega
    · have : (⟨#[120]⟩ : ByteArray).size = 1 := rfl
      omega
  · obtain rfl : j = 0 := by omega
    obtain rfl : q = 0 := by omega
    simp at e4
    subst e4
    obtain rfl : o = some 1 := e5.eq ⟨1, x_ev⟩
    exact ⟨e6, e7⟩
end Go.Proofs.Ytkmcnekjimobhaa
