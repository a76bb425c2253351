/- What the functions of package set that go word by word answer. -/
import Derived.Test.YtndhbdbfjkmloaaDoorBase
import Derived.Test.YtndhbdbfjkmloaaDoorProg
import Derived.Deep.RegionHeld3
import Derived.Deep.RegionWith
namespace Go.Proofs.YtndhbdbfjkmloaaDoor
open Go.RowKit

structure S4 where
  a : Int
  b : Int
  c : Int
  d : Int
def S4.val (s : S4) : Value := .agg #[.int .u64 s.a, .int .u64 s.b, .int .u64 s.c, .int .u64 s.d]
def S4.map2 (f : Int → Int → Int) (s t : S4) : S4 := ⟨f s.a t.a, f s.b t.b, f s.c t.c, f s.d t.d⟩

def orU (x y : Int) : Int := bits .or .u64 x y
def andU (x y : Int) : Int := bits .and .u64 x y
def notU (x : Int) : Int := bits .xor .u64 18446744073709551615 x

/-- the closure F computes f, and leaves the world alone -/
def Computes (F : Nat) (f : Int → Int → Int) : Prop := ∀ (x y : Int) (w : World), Calls Tryd.prog F #[.int .u64 x, .int .u64 y] w fun e w' => e = .returned (.int .u64 (f x y)) ∧ w = w'

theorem join_fn : Computes 153 orU := by
  intro x y w
  go_enter Tryd.func153, Tryd.ntmps153
  go_wp2
  go_ret
  exact ⟨rfl, rfl⟩
theorem not_fn : Computes 152 fun x _ => notU x := by
  intro x y w
  go_enter Tryd.func152, Tryd.ntmps152
  go_wp2
  go_ret
  exact ⟨rfl, rfl⟩

/-- the words of a set behind k rounds -/
def stage (f : Int → Int → Int) (s t : S4) (k : Nat) : Array Value :=
  #[.int .u64 (if 0 < k then f s.a t.a else s.a), .int .u64 (if 1 < k then f s.b t.b else s.b), .int .u64 (if 2 < k then f s.c t.c else s.c), .int .u64 (if 3 < k then f s.d t.d else s.d)]
theorem stage_step (f : Int → Int → Int) (s t : S4) (k : Nat) (hk : k < 4) :
    ∃ x y, (stage f s t k)[k]? = some (.int .u64 x) ∧ (stage f t t 0)[k]? = some (.int .u64 y) ∧ (stage f s t k).setIfInBounds k (.int .u64 (f x y)) = stage f s t (k + 1) := by
  rcases (by omega : k = 0 ∨ k = 1 ∨ k = 2 ∨ k = 3) with rfl | rfl | rfl | rfl
  · exact ⟨s.a, t.a, rfl, rfl, rfl⟩
  · exact ⟨s.b, t.b, rfl, rfl, rfl⟩
  · exact ⟨s.c, t.c, rfl, rfl, rfl⟩
  · exact ⟨s.d, t.d, rfl, rfl, rfl⟩

theorem both_join (s t : S4) (w : World) :
    Calls Tryd.prog 151 #[s.val, t.val, .func (.func 153) #[] #[]] w fun e w' => e = .returned (S4.map2 orU s t).val ∧ Below w.heap.size w w' := by
  unfold S4.val
  go_enter Tryd.func151, Tryd.ntmps151
  go_wp2
  go_loopw [7, 8] (fun _ i wr => ∃ k : Nat, k ≤ 4 ∧ i = .int .i64 k ∧ Blk wr w.heap.size 24 (stage orU s t k) ∧ Blk wr (w.heap.size + 1) 24 (stage orU t t 0) ∧ Blk wr (w.heap.size + 1 + 1) 24 #[.int .u64 0, .int .u64 0, .int .u64 0, .int .u64 0] ∧ Below w.heap.size w wr) (fun _ i _ => 4 - (intOf i).toNat)
  case atStart => exact ⟨0, by omega, rfl, ((blk_at rfl).alloc _).alloc _, (blk_at (by simp)).alloc _, blk_at (by simp), (by repeat (first | exact Below.refl _ _ | assumption | refine Below.drew ?_ | refine below_drewN ?_ _ | refine Below.alloc ?_ (by first | omega | (simp; omega) | simp) _ | refine Below.setCell ?_ (by first | omega | (simp; omega) | simp) _))⟩
  case round =>
    obtain ⟨k, hk, rfl, hs, ht, hz, hbw⟩ := hrel
    by_cases hk4 : k < 4
    · obtain ⟨x, y, hx, hy, hn⟩ := stage_step orU s t k hk4
      have hcx := hs.cell k
      have hcy := ht.cell k
      have hfz := hs.frozen k
      rw [hx] at hcx
      rw [hy] at hcy
      have HN := Lib.hid hn
      clear hx hy hn
      have hk0 : (0 : Int) ≤ (k : Int) := by omega
      have hk1 : (k : Int) < 4 := by omega
      go_wp2_with fail
      go_region_with (go_at_call 153; refine (join_fn x y _).mono ?_; rintro e w' ⟨rfl, rfl⟩)
      all_goals
        go_wp2
        go_roundw
        case rel =>
          refine ⟨k + 1, by omega, by go_num, ?_, ht.far (by simp) _, hz.far (by simp; omega) _, (hbw.drew).setCell (Nat.le_refl _) _⟩
          have := (hs.drew).set_ k (.int .u64 (orU x y))
          rw [HN.out] at this
          exact this
        case measure => simp [intOf]; omega
    · obtain rfl : k = 4 := by omega
      have h0 : wr.cell? ⟨w.heap.size, 0, none⟩ = some (.int .u64 (orU s.a t.a)) := hs.cell 0
      have h1 : wr.cell? ⟨w.heap.size, 1, none⟩ = some (.int .u64 (orU s.b t.b)) := hs.cell 1
      have h2 : wr.cell? ⟨w.heap.size, 2, none⟩ = some (.int .u64 (orU s.c t.c)) := hs.cell 2
      have h3 : wr.cell? ⟨w.heap.size, 3, none⟩ = some (.int .u64 (orU s.d t.d)) := hs.cell 3
      have z0 : wr.cell? ⟨w.heap.size + 1 + 1, 0, none⟩ = some (.int .u64 0) := hz.cell 0
      have z1 : wr.cell? ⟨w.heap.size + 1 + 1, 1, none⟩ = some (.int .u64 0) := hz.cell 1
      have z2 : wr.cell? ⟨w.heap.size + 1 + 1, 2, none⟩ = some (.int .u64 0) := hz.cell 2
      have z3 : wr.cell? ⟨w.heap.size + 1 + 1, 3, none⟩ = some (.int .u64 0) := hz.cell 3
      have f0 := hz.frozen 0
      have f1 := hz.frozen 1
      have f2 := hz.frozen 2
      have f3 := hz.frozen 3
      have e0 : (wr.setCell ⟨w.heap.size + 1 + 1, 0, none⟩ (.int .u64 (orU s.a t.a))).cell? ⟨w.heap.size + 1 + 1, 0, none⟩ = some (.int .u64 (orU s.a t.a)) := (hz.set_ 0 _).cell 0
      have e1 : ((wr.setCell ⟨w.heap.size + 1 + 1, 0, none⟩ (.int .u64 (orU s.a t.a))).setCell ⟨w.heap.size + 1 + 1, 1, none⟩ (.int .u64 (orU s.b t.b))).cell? ⟨w.heap.size + 1 + 1, 1, none⟩ = some (.int .u64 (orU s.b t.b)) := ((hz.set_ 0 _).set_ 1 _).cell 1
      have e2 : (((wr.setCell ⟨w.heap.size + 1 + 1, 0, none⟩ (.int .u64 (orU s.a t.a))).setCell ⟨w.heap.size + 1 + 1, 1, none⟩ (.int .u64 (orU s.b t.b))).setCell ⟨w.heap.size + 1 + 1, 2, none⟩ (.int .u64 (orU s.c t.c))).cell? ⟨w.heap.size + 1 + 1, 2, none⟩ = some (.int .u64 (orU s.c t.c)) := (((hz.set_ 0 _).set_ 1 _).set_ 2 _).cell 2
      have e3 : ((((wr.setCell ⟨w.heap.size + 1 + 1, 0, none⟩ (.int .u64 (orU s.a t.a))).setCell ⟨w.heap.size + 1 + 1, 1, none⟩ (.int .u64 (orU s.b t.b))).setCell ⟨w.heap.size + 1 + 1, 2, none⟩ (.int .u64 (orU s.c t.c))).setCell ⟨w.heap.size + 1 + 1, 3, none⟩ (.int .u64 (orU s.d t.d))).cell? ⟨w.heap.size + 1 + 1, 3, none⟩ = some (.int .u64 (orU s.d t.d)) := ((((hz.set_ 0 _).set_ 1 _).set_ 2 _).set_ 3 _).cell 3
      go_wp2
      exact bodyPost_ret (v := (S4.map2 orU s t).val) (by simp [results, Tryd.results151, go_sem, e0, e1, e2, e3]; rfl) rfl ⟨rfl, (by repeat (first | exact Below.refl _ _ | assumption | refine Below.drew ?_ | refine below_drewN ?_ _ | refine Below.alloc ?_ (by first | omega | (simp; omega) | simp) _ | refine Below.setCell ?_ (by first | omega | (simp; omega) | simp) _))⟩


theorem both_not (s t : S4) (w : World) :
    Calls Tryd.prog 151 #[s.val, t.val, .func (.func 152) #[] #[]] w fun e w' => e = .returned (S4.map2 (fun x _ => notU x) s t).val ∧ Below w.heap.size w w' := by
  unfold S4.val
  go_enter Tryd.func151, Tryd.ntmps151
  go_wp2
  go_loopw [7, 8] (fun _ i wr => ∃ k : Nat, k ≤ 4 ∧ i = .int .i64 k ∧ Blk wr w.heap.size 24 (stage (fun x _ => notU x) s t k) ∧ Blk wr (w.heap.size + 1) 24 (stage (fun x _ => notU x) t t 0) ∧ Blk wr (w.heap.size + 1 + 1) 24 #[.int .u64 0, .int .u64 0, .int .u64 0, .int .u64 0] ∧ Below w.heap.size w wr) (fun _ i _ => 4 - (intOf i).toNat)
  case atStart => exact ⟨0, by omega, rfl, ((blk_at rfl).alloc _).alloc _, (blk_at (by simp)).alloc _, blk_at (by simp), (by repeat (first | exact Below.refl _ _ | assumption | refine Below.drew ?_ | refine below_drewN ?_ _ | refine Below.alloc ?_ (by first | omega | (simp; omega) | simp) _ | refine Below.setCell ?_ (by first | omega | (simp; omega) | simp) _))⟩
  case round =>
    obtain ⟨k, hk, rfl, hs, ht, hz, hbw⟩ := hrel
    by_cases hk4 : k < 4
    · obtain ⟨x, y, hx, hy, hn⟩ := stage_step (fun x _ => notU x) s t k hk4
      have hcx := hs.cell k
      have hcy := ht.cell k
      have hfz := hs.frozen k
      rw [hx] at hcx
      rw [hy] at hcy
      have HN := Lib.hid hn
      clear hx hy hn
      have hk0 : (0 : Int) ≤ (k : Int) := by omega
      have hk1 : (k : Int) < 4 := by omega
      go_wp2_with fail
      go_region_with (go_at_call 152; refine (not_fn x y _).mono ?_; rintro e w' ⟨rfl, rfl⟩)
      all_goals
        go_wp2
        go_roundw
        case rel =>
          refine ⟨k + 1, by omega, by go_num, ?_, ht.far (by simp) _, hz.far (by simp; omega) _, (hbw.drew).setCell (Nat.le_refl _) _⟩
          have := (hs.drew).set_ k (.int .u64 ((fun x _ => notU x) x y))
          rw [HN.out] at this
          exact this
        case measure => simp [intOf]; omega
    · obtain rfl : k = 4 := by omega
      have h0 : wr.cell? ⟨w.heap.size, 0, none⟩ = some (.int .u64 ((fun x _ => notU x) s.a t.a)) := hs.cell 0
      have h1 : wr.cell? ⟨w.heap.size, 1, none⟩ = some (.int .u64 ((fun x _ => notU x) s.b t.b)) := hs.cell 1
      have h2 : wr.cell? ⟨w.heap.size, 2, none⟩ = some (.int .u64 ((fun x _ => notU x) s.c t.c)) := hs.cell 2
      have h3 : wr.cell? ⟨w.heap.size, 3, none⟩ = some (.int .u64 ((fun x _ => notU x) s.d t.d)) := hs.cell 3
      have z0 : wr.cell? ⟨w.heap.size + 1 + 1, 0, none⟩ = some (.int .u64 0) := hz.cell 0
      have z1 : wr.cell? ⟨w.heap.size + 1 + 1, 1, none⟩ = some (.int .u64 0) := hz.cell 1
      have z2 : wr.cell? ⟨w.heap.size + 1 + 1, 2, none⟩ = some (.int .u64 0) := hz.cell 2
      have z3 : wr.cell? ⟨w.heap.size + 1 + 1, 3, none⟩ = some (.int .u64 0) := hz.cell 3
      have f0 := hz.frozen 0
      have f1 := hz.frozen 1
      have f2 := hz.frozen 2
      have f3 := hz.frozen 3
      have e0 : (wr.setCell ⟨w.heap.size + 1 + 1, 0, none⟩ (.int .u64 ((fun x _ => notU x) s.a t.a))).cell? ⟨w.heap.size + 1 + 1, 0, none⟩ = some (.int .u64 ((fun x _ => notU x) s.a t.a)) := (hz.set_ 0 _).cell 0
      have e1 : ((wr.setCell ⟨w.heap.size + 1 + 1, 0, none⟩ (.int .u64 ((fun x _ => notU x) s.a t.a))).setCell ⟨w.heap.size + 1 + 1, 1, none⟩ (.int .u64 ((fun x _ => notU x) s.b t.b))).cell? ⟨w.heap.size + 1 + 1, 1, none⟩ = some (.int .u64 ((fun x _ => notU x) s.b t.b)) := ((hz.set_ 0 _).set_ 1 _).cell 1
      have e2 : (((wr.setCell ⟨w.heap.size + 1 + 1, 0, none⟩ (.int .u64 ((fun x _ => notU x) s.a t.a))).setCell ⟨w.heap.size + 1 + 1, 1, none⟩ (.int .u64 ((fun x _ => notU x) s.b t.b))).setCell ⟨w.heap.size + 1 + 1, 2, none⟩ (.int .u64 ((fun x _ => notU x) s.c t.c))).cell? ⟨w.heap.size + 1 + 1, 2, none⟩ = some (.int .u64 ((fun x _ => notU x) s.c t.c)) := (((hz.set_ 0 _).set_ 1 _).set_ 2 _).cell 2
      have e3 : ((((wr.setCell ⟨w.heap.size + 1 + 1, 0, none⟩ (.int .u64 ((fun x _ => notU x) s.a t.a))).setCell ⟨w.heap.size + 1 + 1, 1, none⟩ (.int .u64 ((fun x _ => notU x) s.b t.b))).setCell ⟨w.heap.size + 1 + 1, 2, none⟩ (.int .u64 ((fun x _ => notU x) s.c t.c))).setCell ⟨w.heap.size + 1 + 1, 3, none⟩ (.int .u64 ((fun x _ => notU x) s.d t.d))).cell? ⟨w.heap.size + 1 + 1, 3, none⟩ = some (.int .u64 ((fun x _ => notU x) s.d t.d)) := ((((hz.set_ 0 _).set_ 1 _).set_ 2 _).set_ 3 _).cell 3
      go_wp2
      exact bodyPost_ret (v := (S4.map2 (fun x _ => notU x) s t).val) (by simp [results, Tryd.results151, go_sem, e0, e1, e2, e3]; rfl) rfl ⟨rfl, (by repeat (first | exact Below.refl _ _ | assumption | refine Below.drew ?_ | refine below_drewN ?_ _ | refine Below.alloc ?_ (by first | omega | (simp; omega) | simp) _ | refine Below.setCell ?_ (by first | omega | (simp; omega) | simp) _))⟩
end Go.Proofs.YtndhbdbfjkmloaaDoor
