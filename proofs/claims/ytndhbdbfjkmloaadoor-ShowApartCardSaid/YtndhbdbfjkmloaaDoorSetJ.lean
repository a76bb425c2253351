/- What set.Has and set.Bytes answer. -/
import Derived.Test.YtndhbdbfjkmloaaDoorSetI
import Derived.Test.YtndhbdbfjkmloaaDoorBytes
namespace Go.Proofs.YtndhbdbfjkmloaaDoor
open Go.RowKit

theorem string_own {w : World} {base n c : Nat} {V : Option Addr} {l : List UInt8} (h : w.ownsRow base 5 1 (.slice V n c) n (u8s l)) :
    (convert 158 9 (.slice V n c)).run Tryd.prog w = .ok (.string ⟨l.toArray⟩) w := by
  have hl : l.length = n := by have := h.1; rw [u8s_length] at this; omega
  rcases h.2 with ⟨h1, rfl⟩ | ⟨g', cap, cur, hv, _, hh, _, _, _, ht⟩
  · simp only [Value.slice.injEq] at h1
    obtain ⟨rfl, _, rfl⟩ := h1
    have : l = [] := List.eq_nil_of_length_eq_zero hl
    subst this
    have hu := Tryd.underlying9
    have := run_convert_bytes_string (P := Tryd.prog) w 158 9 5 none 0 0 Tryd.underlying158 Tryd.underlying5 hu
    rw [this]
    rfl
  · simp only [Value.slice.injEq] at hv
    obtain ⟨rfl, _, _⟩ := hv
    rw [Nat.mul_one] at ht
    exact string_of Tryd.underlying158 Tryd.underlying5 Tryd.underlying9 (BlkZ.of hh) hl ht

theorem u8_info' : (Tryd.prog.info? 5).map (fun i => (i.zero, i.size, i.bytes)) = some (some (.int .u8 0), 1, 1) := by kernel_rfl

end Go.Proofs.YtndhbdbfjkmloaaDoor
