/- What quote.Lit and quote.Unlit answer. -/
import Derived.Test.YtndhbdbfjkmloaaDoorQuo2
import Derived.Lib.IndexBytes
import Derived.Laws.BytesArg
namespace Go.Proofs.YtndhbdbfjkmloaaDoor
open Go.RowKit

def encAll (cls : Bool) : List UInt8 → List UInt8
  | [] => []
  | b :: l => enc cls b.toNat ++ encAll cls l
theorem encAll_snoc (cls : Bool) (b : UInt8) : ∀ l, encAll cls (l ++ [b]) = encAll cls l ++ enc cls b.toNat
  | [] => by simp [encAll]
  | c :: l => by
    show enc cls c.toNat ++ encAll cls (l ++ [b]) = _
    rw [encAll_snoc cls b l, encAll, List.append_assoc]
theorem enc_len (cls : Bool) (n : Nat) : (enc cls n).length ≤ 4 := by
  unfold enc
  split
  · simp
  · split
    · simp
    · split
      · simp
      · split <;> simp
theorem encAll_len (cls : Bool) : ∀ l, (encAll cls l).length ≤ 4 * l.length
  | [] => by simp [encAll]
  | b :: l => by
    have h1 := encAll_len cls l
    have h2 := enc_len cls b.toNat
    rw [encAll, List.length_append, List.length_cons]
    omega
/-- a literal as text -/
def litL (s : List UInt8) : List UInt8 := 39 :: (encAll false s ++ [39])

theorem app_data (a b : ByteArray) : (a ++ b).data.toList = a.data.toList ++ b.data.toList := by simp

theorem lit_any (s : ByteArray) (w : World) (hs : s.size ≤ 140737488351232) :
    Calls Tryd.prog 40 #[.string s] w fun e w' => (∃ u : ByteArray, e = .returned (.string u) ∧ u.data.toList = litL s.data.toList) ∧ Below w.heap.size w w' := by
  have HL := Lib.hid (size_list s)
  go_enter Tryd.func40, Tryd.ntmps40
  go_wp2_with fail
  go_loopw [3, 4, 7] (fun o _ i wr => ∃ (k : Nat) (u : ByteArray), k ≤ s.size ∧ i = .int .i64 k ∧ o = .string u ∧ u.data.toList = 39 :: encAll false (s.data.toList.take k) ∧ Below w.heap.size w wr) (fun _ _ i _ => s.size - (intOf i).toNat)
  case atStart => exact ⟨0, ⟨#[39]⟩, by omega, rfl, rfl, rfl, Below.refl _ _⟩
  case round =>
    obtain ⟨k, u, hk, rfl, rfl, hu, hbw⟩ := hrel
    have hub : u.size ≤ 562949953404929 := by
      have h1 := encAll_len false (s.data.toList.take k)
      have h2 : (s.data.toList.take k).length ≤ 140737488351232 := by rw [List.length_take, HL.out]; omega
      have h3 := size_list u
      rw [hu, List.length_cons] at h3
      omega
    have HU := Lib.hid hu
    clear hu
    by_cases hkn : k < s.size
    · have hg := get_byte hkn
      have HG := Lib.hid hg
      clear hg
      have hb := s[k].toNat_lt
      go_wp2_with fail
      refine (one_any false s[k].toNat hb _).mono ?_
      rintro e w1 ⟨rfl, hb1⟩
      have hw1 := hbw.trans (hb1.mono hbw.size)
      have he : (enc false s[k].toNat).toArray.size ≤ 4 := by have := enc_len false s[k].toNat; simpa using this
      have he' : (⟨(enc false s[k].toNat).toArray⟩ : ByteArray).size ≤ 4 := he
      generalize hE : (⟨(enc false s[k].toNat).toArray⟩ : ByteArray) = E at he' ⊢
      have HE := Lib.hid hE
      clear hE hb1 hb he
      go_wp2
      go_roundw
      case rel => exact ⟨k + 1, u ++ E, by omega, by go_num, rfl, by rw [app_data, HU.out, ← HE.out, take_succ_of HG.out, encAll_snoc]; simp, hw1⟩
      case measure => simp [intOf]; omega
    · obtain rfl : k = s.size := by omega
      go_wp2
      go_ret
      refine ⟨⟨_, rfl, ?_⟩, hbw⟩
      rw [app_data, HU.out, List.take_of_length_le (by rw [HL.out]; omega)]
      rfl
end Go.Proofs.YtndhbdbfjkmloaaDoor
