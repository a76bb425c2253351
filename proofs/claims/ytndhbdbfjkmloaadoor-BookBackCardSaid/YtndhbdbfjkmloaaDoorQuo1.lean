/- What quote.one answers. -/
import Derived.Test.YtndhbdbfjkmloaaDoorStr2
import Derived.Test.YtndhbdbfjkmloaaDoorBytes
namespace Go.Proofs.YtndhbdbfjkmloaaDoor
open Go.RowKit

def hexs : ByteArray := ⟨#[48, 49, 50, 51, 52, 53, 54, 55, 56, 57, 97, 98, 99, 100, 101, 102]⟩
theorem slice_str (s : ByteArray) (k k' : IntKind) (q r : Nat) (i j : Int) (hi : i = q) (hj : j = r) (h1 : q ≤ r) (h2 : r ≤ s.size) (w : World) :
    (Instr.slice 9 (.string s) (some (.int k i)) (some (.int k' j)) none).run Tryd.prog w = .ok (.string (s.extract q r)) w := by
  subst hi hj
  have hu := Tryd.underlying9
  simp [Instr.slice, run_underlying hu, Instr.sliceBounds, go_sem, h1, h2]

def signs (cls : Bool) : ByteArray := if cls then ⟨#[91, 93, 45, 94, 92]⟩ else ⟨#[39, 92]⟩
def hexd (n : Nat) : UInt8 := hexs.data.toList.getD n 0
/-- a byte as text -/
def enc (cls : Bool) (n : Nat) : List UInt8 :=
  if n = 10 then [92, 110] else if n = 9 then [92, 116] else if n < 32 ∨ (n = 32 ∧ cls = true) ∨ 127 ≤ n then [92, 120, hexd (n / 16), hexd (n % 16)]
  else if UInt8.ofNat n ∈ (signs cls).data.toList then [92, UInt8.ofNat n] else [UInt8.ofNat n]

theorem and15 (n : Nat) (h : n < 256) : bits .and .u8 (n : Int) 15 = ((n % 16 : Nat) : Int) := by
  have h' : ∀ b : Fin 256, bits .and .u8 ((b : Nat) : Int) 15 = (((b : Nat) % 16 : Nat) : Int) := by decide +kernel
  exact h' ⟨n, h⟩

set_option maxRecDepth 100000 in
theorem one_any (cls : Bool) (n : Nat) (hn : n < 256) (w : World) :
    Calls Tryd.prog 73 #[.int .u8 n, .string (signs cls)] w fun e w' => e = .returned (.string ⟨(enc cls n).toArray⟩) ∧ Below w.heap.size w w' := by
  by_cases h10 : n = 10
  · subst h10
    go_enter Tryd.func73, Tryd.ntmps73
    go_wp2
    go_ret
    exact ⟨rfl, Below.refl _ _⟩
  by_cases h9 : n = 9
  · subst h9
    go_enter Tryd.func73, Tryd.ntmps73
    go_wp2
    go_ret
    exact ⟨rfl, Below.refl _ _⟩
  have b10 : ((n : Int) == 10) = false := by rw [beq_eq_false_iff_ne]; omega
  have b9 : ((n : Int) == 9) = false := by rw [beq_eq_false_iff_ne]; omega
  obtain ⟨q, r, hq, hr, hq16, hr16, hqn, hrn⟩ : ∃ q r : Nat, (n : Int) / 16 = q ∧ bits .and .u8 (n : Int) 15 = r ∧ q < 16 ∧ r < 16 ∧ q = n / 16 ∧ r = n % 16 :=
    ⟨n / 16, n % 16, by omega, and15 n hn, by omega, by omega, rfl, rfl⟩
  by_cases hx : n < 32 ∨ (n = 32 ∧ cls = true) ∨ 127 ≤ n
  · have hfin : (⟨#[92, 120]⟩ : ByteArray) ++ hexs.extract q (q + 1) ++ hexs.extract r (r + 1) = ⟨(enc cls n).toArray⟩ := by
      have h1 : enc cls n = [92, 120, hexd q, hexd r] := by unfold enc; rw [if_neg h10, if_neg h9, if_pos hx, hqn, hrn]
      rw [h1]
      have h2 : ∀ q r : Fin 16, (⟨#[92, 120]⟩ : ByteArray) ++ hexs.extract q.val (q.val + 1) ++ hexs.extract r.val (r.val + 1) = ⟨[92, 120, hexd q.val, hexd r.val].toArray⟩ := by decide +kernel
      exact h2 ⟨q, hq16⟩ ⟨r, hr16⟩
    have HFIN := Lib.hid hfin
    have h10' := Lib.hid h10
    have h9' := Lib.hid h9
    clear hfin hqn hrn h10 h9
    have w1 : IntKind.u8.wrap ((q : Int) + 1) = (q : Int) + 1 := by rw [IntKind.wrap_u8']; omega
    have w2 : IntKind.u8.wrap ((r : Int) + 1) = (r : Int) + 1 := by rw [IntKind.wrap_u8']; omega
    have s1 := slice_str (⟨#[48, 49, 50, 51, 52, 53, 54, 55, 56, 57, 97, 98, 99, 100, 101, 102]⟩ : ByteArray) .u8 .u8 q (q + 1) (q : Int) ((q : Int) + 1) rfl (by omega) (by omega) (by show q + 1 ≤ 16; omega)
    have s2 := slice_str (⟨#[48, 49, 50, 51, 52, 53, 54, 55, 56, 57, 97, 98, 99, 100, 101, 102]⟩ : ByteArray) .u8 .u8 r (r + 1) (r : Int) ((r : Int) + 1) rfl (by omega) (by omega) (by show r + 1 ≤ 16; omega)
    have q0 : (0 : Int) ≤ (q : Int) := by omega
    have r0 : (0 : Int) ≤ (r : Int) := by omega
    have q1 : (q : Int) + 1 ≤ 16 := by omega
    have r1 : (r : Int) + 1 ≤ 16 := by omega
    rcases (show n < 32 ∨ (n = 32 ∧ cls = true) ∨ 127 ≤ n from hx) with h | ⟨rfl, rfl⟩ | h
    · have hne : ((n : Int) != 32) = true := by rw [bne_iff_ne]; omega
      clear hx
      go_enter Tryd.func73, Tryd.ntmps73
      go_wp2
      go_quiet (fail)
      go_wp2
      go_ret
      exact ⟨congrArg (fun x => Ending.returned (.string x)) HFIN.out, below_drewN (Below.refl _ _) _⟩
    · clear hx
      have es : signs true = ⟨#[91, 93, 45, 94, 92]⟩ := rfl
      have hsg : ((⟨#[91, 93, 45, 94, 92]⟩ : ByteArray).toList == (⟨#[39, 92]⟩ : ByteArray).toList) = false := by decide +kernel
      have hsg' : ((⟨#[91, 93, 45, 94, 92]⟩ : ByteArray).toList != (⟨#[39, 92]⟩ : ByteArray).toList) = true := by decide +kernel
      rw [es]
      clear es
      go_enter Tryd.func73, Tryd.ntmps73
      go_wp2
      go_quiet (fail)
      go_wp2
      go_ret
      exact ⟨congrArg (fun x => Ending.returned (.string x)) (by decide +kernel), below_drewN (Below.refl _ _) _⟩
    · clear hx
      have hne : ((n : Int) != 32) = true := by rw [bne_iff_ne]; omega
      go_enter Tryd.func73, Tryd.ntmps73
      go_wp2
      go_quiet (fail)
      go_wp2
      go_ret
      exact ⟨congrArg (fun x => Ending.returned (.string x)) HFIN.out, below_drewN (Below.refl _ _) _⟩
  · have hm := index_mem (l := (signs cls).data.toList) (c := UInt8.ofNat n)
    have hfin : enc cls n = if UInt8.ofNat n ∈ (signs cls).data.toList then [92, UInt8.ofNat n] else [UInt8.ofNat n] := by
      unfold enc; rw [if_neg h10, if_neg h9, if_neg hx]
    have hnt : (UInt8.ofNat n).toNat = n := by simp; omega
    have hconv : (convert 158 9 (.slice (some ⟨w.heap.size, 0, none⟩) 1 1)).run Tryd.prog (w.alloc (.cells #[.int .u8 (n : Int)] 5)) = .ok (.string ⟨#[UInt8.ofNat n]⟩) (w.alloc (.cells #[.int .u8 (n : Int)] 5)) :=
      string_of (l := [UInt8.ofNat n]) Tryd.underlying158 Tryd.underlying5 Tryd.underlying9 (BlkZ.of (blk_at rfl)) rfl (by simp [u8s, hnt])
    have hto : ((n : Int)).toNat.toUInt8 = UInt8.ofNat n := by simp
    have HM := Lib.hid hm
    have HFIN := Lib.hid hfin
    have HTO := Lib.hid hto
    have hcases : (n = 32 ∧ cls = false) ∨ (32 < n ∧ n < 127) := by
      cases cls <;> simp at hx ⊢ <;> omega
    clear hm hfin hq hr hq16 hr16 hqn hrn hnt hto h10 h9 hx
    rcases hcases with ⟨rfl, rfl⟩ | ⟨hlo, hhi⟩
    · have es : signs false = ⟨#[39, 92]⟩ := rfl
      rw [es]
      clear es
      have hsg : ((⟨#[39, 92]⟩ : ByteArray).toList == (⟨#[39, 92]⟩ : ByteArray).toList) = true := by decide +kernel
      have hsg' : ((⟨#[39, 92]⟩ : ByteArray).toList != (⟨#[39, 92]⟩ : ByteArray).toList) = false := by decide +kernel
      have hix : Lib.indexByte (⟨#[39, 92]⟩ : ByteArray).data.toList ((32 : Int).toNat.toUInt8) = -1 := by decide +kernel
      have HIX := Lib.hid hix
      have hconv' : (convert 158 9 (.slice (some ⟨w.heap.size, 0, none⟩) 1 1)).run Tryd.prog (w.alloc (.cells #[.int .u8 32] 5)) = .ok (.string ⟨#[32]⟩) (w.alloc (.cells #[.int .u8 32] 5)) := hconv
      clear hix hconv
      go_enter Tryd.func73, Tryd.ntmps73
      go_wp2_with (go_at_call 99; refine (indexByte_any _ 32 _).mono ?_; rw [HIX.out]; rintro e w' ⟨rfl, rfl⟩)
      go_ret
      exact ⟨rfl, (by repeat (first | exact Below.refl _ _ | assumption | refine Below.drew ?_ | refine below_drewN ?_ _ | refine Below.alloc ?_ (by first | omega | (simp; omega) | simp) _ | refine Below.setCell ?_ (by first | omega | (simp; omega) | simp) _))⟩
    · have hn32 : ¬ n ≤ 32 := by omega
      by_cases hin : UInt8.ofNat n ∈ (signs cls).data.toList
      · have hge : 0 ≤ Lib.indexByte (signs cls).data.toList (UInt8.ofNat n) := HM.out.2 hin
        have hf : Hid (enc cls n = [92, UInt8.ofNat n]) := by show _ = _; rw [HFIN.out, if_pos hin]
        clear hin
        go_enter Tryd.func73, Tryd.ntmps73
        go_wp2_with (go_at_call 99; refine (indexByte_any _ _ _).mono ?_; rw [HTO.out]; rintro e w' ⟨rfl, rfl⟩)
        go_ret
        exact ⟨by rw [hf.out]; rfl, (by repeat (first | exact Below.refl _ _ | assumption | refine Below.drew ?_ | refine below_drewN ?_ _ | refine Below.alloc ?_ (by first | omega | (simp; omega) | simp) _ | refine Below.setCell ?_ (by first | omega | (simp; omega) | simp) _))⟩
      · have hlt : ¬ 0 ≤ Lib.indexByte (signs cls).data.toList (UInt8.ofNat n) := fun h => hin (HM.out.1 h)
        have hf : Hid (enc cls n = [UInt8.ofNat n]) := by show _ = _; rw [HFIN.out, if_neg hin]
        clear hin
        go_enter Tryd.func73, Tryd.ntmps73
        go_wp2_with (go_at_call 99; refine (indexByte_any _ _ _).mono ?_; rw [HTO.out]; rintro e w' ⟨rfl, rfl⟩)
        go_ret
        exact ⟨by rw [hf.out]; rfl, (by repeat (first | exact Below.refl _ _ | assumption | refine Below.drew ?_ | refine below_drewN ?_ _ | refine Below.alloc ?_ (by first | omega | (simp; omega) | simp) _ | refine Below.setCell ?_ (by first | omega | (simp; omega) | simp) _))⟩
end Go.Proofs.YtndhbdbfjkmloaaDoor
