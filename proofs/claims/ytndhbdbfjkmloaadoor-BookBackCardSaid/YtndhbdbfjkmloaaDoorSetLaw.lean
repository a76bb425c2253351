/- Plain laws of words of 64 bits. -/
import Derived.Test.YtndhbdbfjkmloaaDoorSet2
namespace Go.Proofs.YtndhbdbfjkmloaaDoor
open Go.RowKit

def U64 (x : Int) : Prop := 0 ≤ x ∧ x < 18446744073709551616
theorem U64.nat {x : Int} (h : U64 x) : ∃ v : BitVec 64, x = (v.toNat : Int) := by
  obtain ⟨n, rfl⟩ := Int.eq_ofNat_of_zero_le h.1
  refine ⟨BitVec.ofNat 64 n, ?_⟩
  have := h.2
  rw [BitVec.toNat_ofNat, Nat.mod_eq_of_lt (by omega)]
theorem orU_bv (u v : BitVec 64) : orU (u.toNat : Int) (v.toNat : Int) = ((u ||| v).toNat : Int) := by
  unfold orU; rw [u64_or_nat _ _ u.isLt v.isLt, BitVec.toNat_or]
theorem andU_bv (u v : BitVec 64) : andU (u.toNat : Int) (v.toNat : Int) = ((u &&& v).toNat : Int) := by
  unfold andU; rw [u64_and_nat _ _ u.isLt v.isLt, BitVec.toNat_and]
theorem notU_bv (u : BitVec 64) : notU (u.toNat : Int) = ((~~~u).toNat : Int) := by
  unfold notU
  have h := u64_xor_nat 18446744073709551615 u.toNat (by omega) u.isLt
  rw [show ((18446744073709551615 : Nat) : Int) = 18446744073709551615 from rfl] at h
  rw [h, show (18446744073709551615 : Nat) ^^^ u.toNat = ((BitVec.allOnes 64) ^^^ u).toNat by rw [BitVec.toNat_xor]; rfl, BitVec.allOnes_xor]

theorem U64.or {x y : Int} (hx : U64 x) (hy : U64 y) : U64 (orU x y) := by
  obtain ⟨u, rfl⟩ := hx.nat; obtain ⟨v, rfl⟩ := hy.nat
  rw [orU_bv]; exact ⟨by omega, by have := (u ||| v).isLt; omega⟩
theorem U64.and {x y : Int} (hx : U64 x) (hy : U64 y) : U64 (andU x y) := by
  obtain ⟨u, rfl⟩ := hx.nat; obtain ⟨v, rfl⟩ := hy.nat
  rw [andU_bv]; exact ⟨by omega, by have := (u &&& v).isLt; omega⟩
theorem U64.not {x : Int} (hx : U64 x) : U64 (notU x) := by
  obtain ⟨u, rfl⟩ := hx.nat
  rw [notU_bv]; exact ⟨by omega, by have := (~~~u).isLt; omega⟩
theorem deMorgan {x y : Int} (hx : U64 x) (hy : U64 y) : notU (orU x y) = andU (notU x) (notU y) := by
  obtain ⟨u, rfl⟩ := hx.nat; obtain ⟨v, rfl⟩ := hy.nat
  simp only [orU_bv, notU_bv, andU_bv, BitVec.not_or]
theorem not_not' {x : Int} (hx : U64 x) : notU (notU x) = x := by
  obtain ⟨u, rfl⟩ := hx.nat
  simp only [notU_bv, BitVec.not_not]
theorem distrib {x y z : Int} (hx : U64 x) (hy : U64 y) (hz : U64 z) : andU x (orU y z) = orU (andU x y) (andU x z) := by
  obtain ⟨u, rfl⟩ := hx.nat; obtain ⟨v, rfl⟩ := hy.nat; obtain ⟨t, rfl⟩ := hz.nat
  simp only [orU_bv, andU_bv]
  congr 2
  apply BitVec.eq_of_getLsbD_eq
  intro i _
  simp only [BitVec.getLsbD_and, BitVec.getLsbD_or, Bool.and_or_distrib_left]
theorem absorb {x y : Int} (hx : U64 x) (hy : U64 y) : orU x (andU x y) = x := by
  obtain ⟨u, rfl⟩ := hx.nat; obtain ⟨v, rfl⟩ := hy.nat
  simp only [orU_bv, andU_bv]
  congr 2
  apply BitVec.eq_of_getLsbD_eq
  intro i _
  simp only [BitVec.getLsbD_and, BitVec.getLsbD_or]
  cases u.getLsbD i <;> simp
theorem or_not {x : Int} (hx : U64 x) : orU x (notU x) = 18446744073709551615 := by
  obtain ⟨u, rfl⟩ := hx.nat
  simp only [orU_bv, notU_bv]
  have : u ||| ~~~u = BitVec.allOnes 64 := by
    apply BitVec.eq_of_getLsbD_eq
    intro i hi
    simp only [BitVec.getLsbD_or, BitVec.getLsbD_not, BitVec.getLsbD_allOnes, hi]
    cases u.getLsbD i <;> simp
  rw [this]; rfl
theorem and_not {x : Int} (hx : U64 x) : andU x (notU x) = 0 := by
  obtain ⟨u, rfl⟩ := hx.nat
  simp only [andU_bv, notU_bv]
  have : u &&& ~~~u = 0 := by
    apply BitVec.eq_of_getLsbD_eq
    intro i hi
    simp only [BitVec.getLsbD_and, BitVec.getLsbD_not, hi]
    cases u.getLsbD i <;> simp
  rw [this]; rfl
end Go.Proofs.YtndhbdbfjkmloaaDoor
