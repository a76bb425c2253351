/- The law PackRest: plain; outcomes compared; what stands ahead makes no difference. -/
import Derived.Test.YtefechceoeeonaaPkA
import Derived.Test.YtefechceoeeonaaGF
namespace Go.Proofs.Ytefechceoeeonaa
open Go.RowKit Go.Maps

theorem run_same_out (w : World) (b b' : Bool) (n n' : Int) : (Op.equalIn 10000 74 (.agg #[.bool b, .int .i64 n]) (.agg #[.bool b', .int .i64 n'])).run Try.prog w = .ok (b == b' && n == n') w := by
  have u4 := Try.underlying4
  have a4 := Try.isAgg4
  have z4 := Try.sizeOf4
  have u3 := Try.underlying3
  have a3 := Try.isAgg3
  have z3 := Try.sizeOf3
  have hS : Try.prog.underlying 74 = some (.struct (Try.prog.fieldsOf 74)) := by kernel_rfl
  have hp : Try.prog.stoodInHeld 74 = false := by kernel_rfl
  rw [show (10000 : Nat) = 9999 + 1 from rfl, run_equalIn_agg w 9999 74 _ _ hS hp]
  simp only [Program.fieldsOf, Try.underlying74]
  go_simp
  cases b <;> cases b' <;> cases h : (n == n') <;> simp_all
theorem outV_eq (v : Option Nat) : outV v = .agg #[.bool v.isSome, .int .i64 (v.getD 0 : Nat)] := by cases v <;> rfl
def ltX : ByteArray := ⟨#[120]⟩
theorem rest_look : lookG [(nameA, litE ⟨#[120]⟩)] ⟨#[121, 120]⟩ = 0 := by decide +kernel
theorem rest_ev : ev [(nameA, litE ⟨#[120]⟩)] [121, 120] 1 (litE ⟨#[120]⟩) 1 = some (some 2) := by decide +kernel

section
variable {g : List Rl} (a s : List UInt8)
theorem bt_past (p : Nat) : bt (a ++ s) (a.length + p) = bt s p := by
  unfold bt
  rw [List.getD_eq_getElem?_getD, List.getD_eq_getElem?_getD, List.getElem?_append_right (by omega), Nat.add_sub_cancel_left]
theorem lit_past (p : Nat) (t : List UInt8) : litAt (a ++ s) (a.length + p) t = litAt s p t := by
  unfold litAt
  rw [List.drop_append, List.drop_of_length_le (by omega), List.nil_append, Nat.add_sub_cancel_left]
theorem ev_past : ∀ n j p, evJ g (a ++ s) n j (a.length + p) = (evJ g s n j p).map (Option.map (a.length + ·)) := by
  intro n
  induction n with
  | zero => intro j p; rfl
  | succ n ih =>
    intro j p
    cases j with
    | ex e =>
      obtain ⟨k, x1, x2, x3, x4, t, ks⟩ := e
      have h1 := ev_s g (a ++ s) n k x1 x2 x3 x4 t ks (a.length + p)
      have h2 := ev_s g s n k x1 x2 x3 x4 t ks p
      unfold ev at h1 h2
      rw [h1, h2, bt_past, lit_past]
      unfold evS evA evK
      split
      · rfl
      split
      · by_cases hc : p < s.length ∧ hasE x1 x2 x3 x4 (bt s p) = true
        · rw [if_pos hc, if_pos ⟨by rw [List.length_append]; omega, hc.2⟩]; simp; omega
        · rw [if_neg hc, if_neg (fun h => hc ⟨by have := h.1; rw [List.length_append] at this; omega, h.2⟩)]; rfl
      split
      · split
        · simp; omega
        · rfl
      split
      · cases g[(fnd g t.data.toList).toNat]? with
        | none => rfl
        | some r => exact ih _ p
      split
      · exact ih _ p
      split
      · exact ih _ p
      cases ks with
      | nil => rfl
      | cons e es => exact ih _ p
    | kid k e =>
      have h1 := evK_s g (a ++ s) n k e (a.length + p)
      have h2 := evK_s g s n k e p
      unfold evK ev evR at h1 h2
      rw [h1, h2, ih (.ex e) p, ih (.rep e) p]
      split
      · rfl
      cases evJ g s n (.ex e) p with
      | none => rfl
      | some o =>
        cases o with
        | none =>
          simp only [Option.map_some, Option.map_none]
          split <;> rfl
        | some q =>
          simp only [Option.map_some]
          split
          · exact ih _ q
          split
          · rfl
          split <;> rfl
    | seq es =>
      cases es with
      | nil => rfl
      | cons e es =>
        have h1 := evS_cons g (a ++ s) n e es (a.length + p)
        have h2 := evS_cons g s n e es p
        unfold evS ev at h1 h2
        rw [h1, h2, ih (.ex e) p]
        cases evJ g s n (.ex e) p with
        | none => rfl
        | some o =>
          cases o with
          | none => rfl
          | some q => exact ih _ q
    | alt es =>
      cases es with
      | nil => rfl
      | cons e es =>
        have h1 := evA_cons g (a ++ s) n e es (a.length + p)
        have h2 := evA_cons g s n e es p
        unfold evA ev at h1 h2
        rw [h1, h2, ih (.ex e) p]
        cases evJ g s n (.ex e) p with
        | none => rfl
        | some o =>
          cases o with
          | none => exact ih _ p
          | some q => rfl
    | rep e =>
      have h1 := evR_s g (a ++ s) n e (a.length + p)
      have h2 := evR_s g s n e p
      unfold evR ev at h1 h2
      rw [h1, h2, ih (.ex e) p]
      cases evJ g s n (.ex e) p with
      | none => rfl
      | some o =>
        cases o with
        | none => rfl
        | some q => exact ih _ q
end
theorem look_same {g : List Rl} {s t : ByteArray} (hs : s.size ≤ 60) (ht : t.size ≤ 60) : lookG g s = lookG g t := by
  unfold lookG
  rw [if_neg (by omega : ¬ 60 < s.size), if_neg (by omega : ¬ 60 < t.size)]
theorem rest_law {g : List Rl} {i : Int} {a s t : ByteArray} {v v' : Option Nat} {x x' : Int} (ht : t.data.toList = a.data.toList ++ s.data.toList) (h60 : a.size + s.size ≤ 60) (h : AtR g i t a.size v x) (h' : AtR g i s 0 v' x') : v = v' ∧ x = x' := by
  have l1 : a.data.toList.length = a.size := size_list a
  have l2 : s.data.toList.length = s.size := size_list s
  have l3 : t.size = a.size + s.size := by
    have l3 : t.data.toList.length = t.size := size_list t
    rw [← l3, ht, List.length_append, l1, l2]
  have hl : lookG g t = lookG g s := look_same (by omega) (by omega)
  rcases h with ⟨h1, rfl, rfl⟩ | ⟨h1, h2, rfl, rfl⟩ | ⟨h1, j, q, r, o, rfl, hq, hqs, hr, hsem, rfl, rfl⟩ <;> rcases h' with ⟨h1', rfl, rfl⟩ | ⟨h1', h2', rfl, rfl⟩ | ⟨h1', j', q', r', o', hj, hq', hqs', hr', hsem', rfl, rfl⟩
  · exact ⟨rfl, hl⟩
  · exact absurd (hl.trans h1') h1
  · exact absurd (hl.trans h1') h1
  · exact absurd (hl.symm.trans h1) h1'
  · exact ⟨rfl, rfl⟩
  · exfalso
    have := getElem?_lt hr'
    omega
  · exact absurd (hl.symm.trans h1) h1'
  · exfalso
    have := getElem?_lt hr
    omega
  · have : j = j' := by omega
    subst this
    rw [hr] at hr'
    injection hr' with hr'
    subst hr'
    have hq1 : q = a.size := by omega
    have hq2 : q' = 0 := by omega
    subst hq1 hq2
    obtain ⟨n, hn⟩ := hsem
    obtain ⟨m, hm⟩ := hsem'
    have hp := ev_past (g := g) a.data.toList s.data.toList m (.ex r.2) 0
    rw [show evJ g s.data.toList m (.ex r.2) 0 = some o' from hm, Nat.add_zero, l1, ← ht] at hp
    have := ev_eq hn hp
    subst this
    refine ⟨?_, rfl⟩
    cases o' with
    | none => rfl
    | some q => simp
end Go.Proofs.Ytefechceoeeonaa
