/- What cover.Merge answers of two lists of marks. -/
import Derived.Test.YtphfckihdhmhpaaCov1
import Derived.Deep.RegionHeld3
namespace Go.Proofs.Ytphfckihdhmhpaa
open Go.RowKit

def orI (x y : Int) : Int := ((x.toNat ||| y.toNat : Nat) : Int)
def mergeE (a b : List Int) : Int := if checkL a ≠ 0 then checkL a else if checkL b ≠ 0 then checkL b else if a.length ≠ b.length then 1 else 0
def mergeV (a b : List Int) : List Int := if mergeE a b = 0 then List.zipWith orI a b else []

theorem check_01 {zs : List Int} (h : checkL zs = 0) : zs.length ≤ 120 ∧ ∀ z ∈ zs, 0 ≤ z ∧ z ≤ 3 := by
  unfold checkL at h
  split at h
  · omega
  · split at h
    · rename_i h1 h2
      refine ⟨by omega, fun z hz => ?_⟩
      have := List.all_eq_true.1 h2 z hz
      simpa using this
    · omega
theorem check_of {zs : List Int} (h1 : zs.length ≤ 120) (h2 : ∀ z ∈ zs, 0 ≤ z ∧ z ≤ 3) : checkL zs = 0 := by
  unfold checkL
  rw [if_neg (by omega), if_pos]
  rw [List.all_eq_true]
  intro z hz
  simpa using h2 z hz

theorem or_i64 (x y : Int) (hx : 0 ≤ x ∧ x ≤ 3) (hy : 0 ≤ y ∧ y ≤ 3) : bits .or .i64 x y = orI x y := by
  obtain ⟨n, rfl⟩ := Int.eq_ofNat_of_zero_le hx.1
  obtain ⟨m, rfl⟩ := Int.eq_ofNat_of_zero_le hy.1
  have hn : n < 4 := by omega
  have hm : m < 4 := by omega
  clear hx hy
  have h : ∀ n : Fin 4, ∀ m : Fin 4, bits .or .i64 ((n : Nat) : Int) ((m : Nat) : Int) = orI ((n : Nat) : Int) ((m : Nat) : Int) := by decide +kernel
  exact h ⟨n, hn⟩ ⟨m, hm⟩

theorem zip_take_succ {a b : List Int} {k : Nat} {x y : Int} (hx : a[k]? = some x) (hy : b[k]? = some y) : (List.zipWith orI a b).take (k + 1) = (List.zipWith orI a b).take k ++ [orI x y] :=
  take_succ_of (by simp [List.getElem?_zipWith, hx, hy])

theorem int_info : (Try.prog.info? 3).map (fun i => (i.zero, i.size, i.bytes)) = some (some (.int .i64 0), 1, 8) := by kernel_rfl

/-- what cover.Merge leaves -/
def MergeSays (a b : List Int) (w : World) (e : Ending) (w' : World) : Prop :=
  ∃ V c, e = .returned (.tuple #[.slice V (mergeV a b).length c, .int .i64 (mergeE a b)]) ∧ w'.ownsRow w.heap.size 3 1 (.slice V (mergeV a b).length c) (mergeV a b).length (ints (mergeV a b)) ∧ Below w.heap.size w w'

theorem mergeSays_bad {a b : List Int} {w : World} {x : Int} (h : mergeE a b = x) (hx : x ≠ 0) : MergeSays a b w (.returned (.tuple #[.slice none 0 0, .int .i64 x])) w := by
  have hv : mergeV a b = [] := by unfold mergeV; rw [if_neg (by rw [h]; exact hx)]
  exact ⟨none, 0, by rw [hv, h]; rfl, by rw [hv]; exact ⟨rfl, .inl ⟨rfl, rfl⟩⟩, Below.refl _ _⟩

theorem merge_any (A A' : Option Addr) (n c n' c' : Nat) (a b : List Int) (B B' : Nat) (w : World) (ha : Reads w B 1 A n (ints a)) (hb : Reads w B' 1 A' n' (ints b)) (hB : B ≤ w.heap.size) (hB' : B' ≤ w.heap.size) :
    Calls Try.prog 36 #[.slice A n c, .slice A' n' c'] w (MergeSays a b w) := by
  have HL := Lib.hid ha.ints_len
  have HL' := Lib.hid hb.ints_len
  by_cases h1 : checkL a = 0
  · by_cases h2 : checkL b = 0
    · by_cases h3 : n = n'
      · obtain rfl := h3
        obtain ⟨i0, hi0, hz0, hz1, hz2⟩ := info_parts int_info
        obtain ⟨l1, l2⟩ := check_01 h1
        obtain ⟨_, l4⟩ := check_01 h2
        have HE : Hid (mergeE a b = 0) := by
          show mergeE a b = 0
          unfold mergeE; rw [if_neg (by simpa using h1), if_neg (by simpa using h2), if_neg (by rw [HL.out, HL'.out]; simp)]
        have hn120 : n ≤ 120 := by have := HL.out; omega
        have L2 := Lib.hid l2
        have L4 := Lib.hid l4
        have H1 := Lib.hid h1
        have H2 := Lib.hid h2
        clear h1 h2 l1 l2 l4
        go_enter Try.func36, Try.ntmps36
        go_wp2_with (first
          | (go_at_call 68; (with_reducible refine (check_any A n c a B _ ha).mono ?_); rw [H1.out]; rintro e w' ⟨rfl, rfl⟩)
          | (go_at_call 68; (with_reducible refine (check_any A' n c' b B' _ hb).mono ?_); rw [H2.out]; rintro e w' ⟨rfl, rfl⟩))
        go_loopw [8, 9, 27] (fun v _ i wr => ∃ k : Nat, k ≤ n ∧ i = .int .i64 k ∧ (∃ V cp, v = .slice V k cp ∧ wr.ownsRow w.heap.size 3 1 (.slice V k cp) k (ints ((List.zipWith orI a b).take k))) ∧ Below w.heap.size w wr) (fun _ _ i _ => n - (intOf i).toNat)
        case atStart => exact ⟨0, by omega, rfl, ⟨none, 0, rfl, by simp [ints], .inl ⟨rfl, rfl⟩⟩, Below.refl _ _⟩
        case round =>
          obtain ⟨k, hk, rfl, ⟨V, cp, rfl, hown⟩, hbw⟩ := hrel
          by_cases hkn : k < n
          · obtain ⟨ad, x, rfl, hab, hx, hcx⟩ := (ha.below (hbw.mono hB)).int_at hkn
            obtain ⟨bd, y, rfl, hbb, hy, hcy⟩ := (hb.below (hbw.mono hB')).int_at hkn
            have hxb := L2.out x (List.mem_of_getElem? hx)
            have hyb := L4.out y (List.mem_of_getElem? hy)
            have HX := Lib.hid hx
            have HY := Lib.hid hy
            have hor := or_i64 x y hxb hyb
            have hk0 : (0 : Int) ≤ (k : Int) := by omega
            have hk1 : (k : Int) < (n : Int) := by omega
            clear hx hy
            have had : ad.block < w.heap.size := by omega
            have hbd : bd.block < w.heap.size := by omega
            have hsz := hbw.size
            go_wp2_with fail
            go_region_held3 (fun w' => w'.cell? (ad.add k) = some (.int .i64 x) ∧ w'.cell? (bd.add k) = some (.int .i64 y))
              (first | go_keep | (go_split_ands; refine ⟨?_, ?_⟩ <;> (rw [hgrow.cell_far _ (by rw [add_block]; simp; omega) (own_ne_add hown (by assumption))]; assumption)))
              ((refine step_append_lies _ (by rfl) _ _ _ (by rfl) w.heap.size 3 i0 _ 1 8 Try.underlying63 hi0 hz0 hz1 hz2 rfl (by omega) (.slice V k cp) k _ (by rfl) ((hown.alloc _).drew)
                 ⟨wr.heap.size, 0, none⟩ 1 1 [.int .i64 (orI x y)] (by rfl) (by rfl) (World.news_of_block (cs := #[.int .i64 (orI x y)]) (t := 3) (fr := (0, 0)) (heap_alloc_new wr _)) (by simp [Value.oneCell'])
                 (by omega) (by unfold maxLen; omega) (by omega) (by have := hbw.size; simp; omega) (wr.heap.size + 1) (by simp) ?_; intro gg cap w1 hown1 hgrow hat hlt))
            go_wp2
            go_roundw
            case rel =>
              refine ⟨k + 1, by omega, by go_num, ⟨_, cap, rfl, ?_⟩, ?_⟩
              · rw [zip_take_succ HX.out HY.out, ints_append]
                exact hown1
              · exact below_app ((hbw.alloc hsz _).drew) ((hown.alloc _).drew) hgrow (by simp; omega) (Nat.le_refl _)
            case measure => simp [intOf]; omega
          · obtain rfl : k = n := by omega
            go_wp2
            go_ret2
            have hfin : mergeV a b = (List.zipWith orI a b).take k := by
              unfold mergeV
              rw [if_pos HE.out, List.take_of_length_le]
              rw [List.length_zipWith, HL.out]
              exact Nat.min_le_left _ _
            have hlen : (mergeV a b).length = k := by
              rw [hfin, List.length_take, List.length_zipWith, HL.out, HL'.out]; omega
            exact ⟨V, cp, by rw [hlen, HE.out]; rfl, by rw [hlen, hfin]; exact hown, hbw⟩
      · have HE : Hid (mergeE a b = 1) := by
          show mergeE a b = 1
          unfold mergeE; rw [if_neg (by simpa using h1), if_neg (by simpa using h2), if_pos (by rw [HL.out, HL'.out]; exact h3)]
        have H1 := Lib.hid h1
        have H2 := Lib.hid h2
        have hne : ((n : Int) != (n' : Int)) = true := by simp; omega
        clear h1 h2
        go_enter Try.func36, Try.ntmps36
        go_wp2_with (first
          | (go_at_call 68; (with_reducible refine (check_any A n c a B _ ha).mono ?_); rw [H1.out]; rintro e w' ⟨rfl, rfl⟩)
          | (go_at_call 68; (with_reducible refine (check_any A' n' c' b B' _ hb).mono ?_); rw [H2.out]; rintro e w' ⟨rfl, rfl⟩))
        go_ret2
        exact mergeSays_bad HE.out (by decide)
    · have HE : Hid (mergeE a b = checkL b) := by
        show mergeE a b = checkL b
        unfold mergeE; rw [if_neg (by simpa using h1), if_pos h2]
      have H1 := Lib.hid h1
      have H2 := Lib.hid h2
      have hne : (checkL b != 0) = true := by simpa using h2
      clear h1 h2
      go_enter Try.func36, Try.ntmps36
      go_wp2_with (first
        | (go_at_call 68; (with_reducible refine (check_any A n c a B _ ha).mono ?_); rw [H1.out]; rintro e w' ⟨rfl, rfl⟩)
        | (go_at_call 68; (with_reducible refine (check_any A' n' c' b B' _ hb).mono ?_); rintro e w' ⟨rfl, rfl⟩))
      go_ret2
      exact mergeSays_bad HE.out H2.out
  · have HE : Hid (mergeE a b = checkL a) := by
      show mergeE a b = checkL a
      unfold mergeE; rw [if_pos h1]
    have H1 := Lib.hid h1
    have hne : (checkL a != 0) = true := by simpa using h1
    clear h1
    go_enter Try.func36, Try.ntmps36
    go_wp2_with (go_at_call 68; (with_reducible refine (check_any A n c a B _ ha).mono ?_); rintro e w' ⟨rfl, rfl⟩)
    go_ret2
    exact mergeSays_bad HE.out H1.out
end Go.Proofs.Ytphfckihdhmhpaa
