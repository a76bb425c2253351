/- Plain facts on small lists: what a small grammar accepts. -/
import Derived.Test.YtkmcnekjimobhaaLsA
namespace Go.Proofs.Ytkmcnekjimobhaa
open Go.RowKit

theorem accG_is {g : List Rl} {s : ByteArray} {r : Rl} {n : Nat} {o : Option Nat} (hl : lookG g s = 0) (hr : g[0]? = some r) (he : ev g s.data.toList n r.2 0 = some o) : accG g s = (o.isSome && decide (o.getD 0 = s.size)) := by
  unfold accG
  rw [hl, outG_is hr ⟨n, he⟩]
  simp
theorem textsL_of {a : List UInt8} {n : Nat} {l : List ByteArray} (hl : l.length = shN a.length (n + 1)) (h : ∀ i u, l[i]? = some u → OverOk a u.data.toList ∧ rank a u.data.toList = i) : textsL a [] n = l := by
  apply List.ext_getElem?
  intro i
  by_cases hi : i < shN a.length (n + 1)
  · obtain ⟨u, hu⟩ : ∃ u, l[i]? = some u := ⟨_, List.getElem?_eq_getElem (by omega)⟩
    obtain ⟨h1, h2⟩ := h i u hu
    rw [textsL_get (by rw [rank_zero]; omega), hu, rank_zero, Nat.zero_add, ← h2, textOf_is h1]
  · rw [List.getElem?_eq_none (by rw [textsL_len, rank_zero]; omega), List.getElem?_eq_none (by omega)]
/-- "xy" -/
def xyA : ByteArray := ⟨#[120, 121]⟩
theorem xy_ok : AlphaOk [120, 121] := by
  refine ⟨by decide, by decide, fun i h1 h2 => ?_⟩
  obtain rfl : i = 1 := by simp at h2; omega
  decide
theorem x_ok : AlphaOk [120] := ⟨by decide, by decide, fun i h1 h2 => by simp at h2; omega⟩
def overB (a s : List UInt8) : Bool := decide (s.length ≤ 6) && s.all fun c => a.contains c
theorem over_of {a s : List UInt8} (ha : AlphaOk a) (h : overB a s = true) : OverOk a s := by
  unfold overB at h
  simp only [Bool.and_eq_true, decide_eq_true_eq, List.all_eq_true] at h
  exact ⟨ha, h.1, fun c hc => by have := h.2 c hc; simpa using this⟩
theorem texts_small {a : List UInt8} (ha : AlphaOk a) {n : Nat} {l : List ByteArray} (h : (decide (l.length = shN a.length (n + 1)) && (List.range l.length).all fun i => overB a (l.getD i ⟨#[]⟩).data.toList && decide (rank a (l.getD i ⟨#[]⟩).data.toList = i)) = true) : textsL a [] n = l := by
  simp only [Bool.and_eq_true, decide_eq_true_eq, List.all_eq_true, List.mem_range] at h
  refine textsL_of h.1 fun i u hu => ?_
  have hi := h.2 i (getElem?_lt hu)
  rw [List.getD_eq_getElem?_getD, hu] at hi
  exact ⟨over_of ha hi.1, hi.2⟩
def starG : List Rl := [(nameA, ofN 7 [litE ⟨#[120]⟩])]
def xG : List Rl := [(nameA, litE ⟨#[120]⟩)]
def yG : List Rl := [(nameA, litE ⟨#[121]⟩)]
theorem star_well : (wellG starG).2 = 0 := by decide +kernel
theorem x_well : (wellG xG).2 = 0 := by decide +kernel
theorem y_well : (wellG yG).2 = 0 := by decide +kernel
theorem look_of {g : List Rl} {s : ByteArray} (h : (wellG g).2 = 0) (hs : s.size ≤ 60) : lookG g s = 0 := by
  unfold lookG
  rw [if_neg (by rw [h]; simp), if_neg (by omega)]
theorem texts_xy2 : textsL [120, 121] [] 2 = [⟨#[]⟩, ⟨#[120]⟩, ⟨#[121]⟩, ⟨#[120, 120]⟩, ⟨#[120, 121]⟩, ⟨#[121, 120]⟩, ⟨#[121, 121]⟩] := texts_small xy_ok (by decide +kernel)
theorem texts_xy1 : textsL [120, 121] [] 1 = [⟨#[]⟩, ⟨#[120]⟩, ⟨#[121]⟩] := texts_small xy_ok (by decide +kernel)
theorem texts_x1 : textsL [120] [] 1 = [⟨#[]⟩, ⟨#[120]⟩] := texts_small x_ok (by decide +kernel)
theorem texts_x0 : textsL [120] [] 0 = [⟨#[]⟩] := texts_small x_ok (by decide +kernel)
theorem star_acc (s : ByteArray) (hs : s.size ≤ 60) {o : Option Nat} (he : ev starG s.data.toList 20 (ofN 7 [litE ⟨#[120]⟩]) 0 = some o) : accG starG s = (o.isSome && decide (o.getD 0 = s.size)) := accG_is (look_of star_well hs) rfl he
theorem x_acc (s : ByteArray) (hs : s.size ≤ 60) {o : Option Nat} (he : ev xG s.data.toList 20 (litE ⟨#[120]⟩) 0 = some o) : accG xG s = (o.isSome && decide (o.getD 0 = s.size)) := accG_is (look_of x_well hs) rfl he
theorem y_acc (s : ByteArray) (hs : s.size ≤ 60) {o : Option Nat} (he : ev yG s.data.toList 20 (litE ⟨#[121]⟩) 0 = some o) : accG yG s = (o.isSome && decide (o.getD 0 = s.size)) := accG_is (look_of y_well hs) rfl he
theorem star_all : allL (accG starG) [120, 121] 2 = [⟨#[]⟩, ⟨#[120]⟩, ⟨#[120, 120]⟩] := by
  have h0 : accG starG ⟨#[]⟩ = true := star_acc _ (by decide) (o := some 0) (by decide +kernel)
  have h1 : accG starG ⟨#[120]⟩ = true := star_acc _ (by decide) (o := some 1) (by decide +kernel)
  have h2 : accG starG ⟨#[121]⟩ = false := star_acc _ (by decide) (o := some 0) (by decide +kernel)
  have h3 : accG starG ⟨#[120, 120]⟩ = true := star_acc _ (by decide) (o := some 2) (by decide +kernel)
  have h4 : accG starG ⟨#[120, 121]⟩ = false := star_acc _ (by decide) (o := some 1) (by decide +kernel)
  have h5 : accG starG ⟨#[121, 120]⟩ = false := star_acc _ (by decide) (o := some 0) (by decide +kernel)
  have h6 : accG starG ⟨#[121, 121]⟩ = false := star_acc _ (by decide) (o := some 0) (by decide +kernel)
  unfold allL
  rw [texts_xy2]
  simp [h0, h1, h2, h3, h4, h5, h6]
theorem star_lookok : LookOk starG ⟨#[120, 121]⟩ 2 := ⟨star_well, xy_ok, 2, rfl, by decide, by decide +kernel⟩
theorem wf_lit (t : ByteArray) : WfE (litE t) := .mk _ _ _ _ _ _ _ (by unfold I64; omega) (by unfold U64; omega) (by unfold U64; omega) (by unfold U64; omega) (by unfold U64; omega) (fun e h => by cases h)
theorem wf_of {k : Int} (hk : I64 k) {ks : List Ex} (h : ∀ e ∈ ks, WfE e) : WfE (ofN k ks) := .mk _ _ _ _ _ _ _ hk (by unfold U64; omega) (by unfold U64; omega) (by unfold U64; omega) (by unfold U64; omega) h
theorem wf_g1 {e : Ex} (h : WfE e) : ∀ r ∈ [(nameA, e)], WfE r.2 := fun r hr => by simp only [List.mem_singleton] at hr; subst hr; exact h
end Go.Proofs.Ytkmcnekjimobhaa
