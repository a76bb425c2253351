/- What chaffkeep.said answers. -/
import Derived.Test.YtphfckihdhmhpaaGdC
namespace Go.Proofs.Ytphfckihdhmhpaa
open Go.RowKit

/-- the numbers so far: none twice -/
def Got (out : List Nat) (P : Nat → Prop) : Prop := out.Nodup ∧ ∀ x, x ∈ out ↔ P x
theorem Got.add {out : List Nat} {P P' : Nat → Prop} {x : Nat} (h : Got out P) (hx : x ∉ out) (hp : ∀ y, P' y ↔ P y ∨ y = x) : Got (out ++ [x]) P' := by
  refine ⟨List.nodup_append.2 ⟨h.1, by simp, ?_⟩, fun y => ?_⟩
  · intro a ha b hb
    simp only [List.mem_singleton] at hb
    subst hb
    exact fun e => hx (e ▸ ha)
  · rw [List.mem_append, List.mem_singleton, h.2, hp]
theorem Got.same {out : List Nat} {P P' : Nat → Prop} (h : Got out P) (hp : ∀ y, P' y ↔ P y) : Got out P' := ⟨h.1, fun y => (h.2 y).trans (hp y).symm⟩
theorem Got.len {out : List Nat} {N : Nat} {p : Nat → Bool} (h : Got out fun x => x < N ∧ p x = true) : out.length = cntN N p := by
  unfold cntN
  rw [List.countP_eq_length_filter]
  have hn : ((List.range N).filter p).Nodup := List.Pairwise.filter _ List.nodup_range
  have hm : ∀ x, x ∈ out ↔ x ∈ (List.range N).filter p := fun x => by rw [h.2, List.mem_filter, List.mem_range]
  exact Nat.le_antisymm (nodup_len h.1 fun x hx => (hm x).1 hx) (nodup_len hn fun x hx => (hm x).2 hx)
theorem Got.le {out : List Nat} {P : Nat → Prop} {N : Nat} (h : Got out P) (hp : ∀ x, P x → x < N) : out.length ≤ N := by
  have := nodup_len (b := List.range N) h.1 fun x hx => List.mem_range.2 (hp x ((h.2 x).1 hx))
  rwa [List.length_range] at this
theorem mem_take_succ {l : List Nat} {q x : Nat} (h : l[q]? = some x) (y : Nat) : y ∈ l.take (q + 1) ↔ y ∈ l.take q ∨ y = x := by
  rw [take_succ_of h, List.mem_append, List.mem_singleton]

set_option maxRecDepth 100000 in
set_option maxHeartbeats 1000000 in
theorem said_any (rows : List (List Int)) (A : Option Addr) (c : Nat) (l : List Nat) (VL : Option Addr) (cl B : Nat) (w : World) (hB : B ≤ w.heap.size) (hr : RowsIs w B rows A c) (h0 : chkR rows = 0) (hl : Reads w w.heap.size 1 VL l.length (ints (natI l))) (hi : ∀ i ∈ l, i < rows.length) (hll : l.length ≤ 1000) :
    Calls Try.prog 37 #[.slice A rows.length c, .slice VL l.length cl] w fun e w' => e = .returned (.int .i64 (saidN (2 * rowL rows) (rows.map says) l)) ∧ Below w.heap.size w w' := by
  obtain ⟨i0, hi0, hz0, hz1, hz2⟩ := info_parts int_info
  obtain ⟨h40, hL, hall⟩ := chkR_all h0
  have hle := hr.le
  have hcap := hr.cap
  unfold maxLen at hcap
  have HA := Lib.hid hall
  have HR := Lib.hid hr
  have HI := Lib.hid hi
  have HLL := Lib.hid hl
  clear h0 hall hr hi hl
  unfold saidN
  generalize rowL rows = L at *
  go_enter Try.func37, Try.ntmps37
  go_wp2
  go_loopw [5, 7, 9, 12] (fun vo _ _ i wr => ∃ (k : Nat) (out : List Nat) (V : Option Addr) (co : Nat), k ≤ l.length ∧ i = .int .i64 k ∧ vo = .slice V out.length co ∧ Hid (Got out fun x => x < 2 * L ∧ unionB (rows.map says) (l.take k) x = true) ∧ Hid (wr.ownsRow w.heap.size 3 1 (.slice V out.length co) out.length (ints (natI out))) ∧ Below w.heap.size w wr) (fun _ _ _ i _ => l.length - (intOf i).toNat)
  case atStart => exact ⟨0, [], none, 0, by omega, rfl, rfl, ⟨List.nodup_nil, fun x => by simp [unionB]⟩, World.ownsRow_nil _ _ _ _, Below.refl _ _⟩
  case round =>
    obtain ⟨k, out, V, co, hk, rfl, rfl, HG, HO, hwr⟩ := hrel
    have hwz := hwr.size
    by_cases hkn : k < l.length
    · obtain ⟨lad, z, rfl, hlab, hz, hcz⟩ := (HLL.out.below hwr).int_at hkn
      obtain ⟨i, hli, rfl⟩ := natI_at hz
      have hir := HI.out i (List.mem_of_getElem? hli)
      have hx := List.getElem?_eq_getElem hir
      generalize rows[i] = r at hx
      obtain ⟨ad, Ai, ci, rfl, hab, hci, hlc, hmc, hri⟩ := (HR.out.on (hwr.mono hB)).row i r hx
      obtain ⟨hrl, hrm⟩ := HA.out r (List.mem_of_getElem? hx)
      rw [hrl] at hci hri
      have hrs := rsaid_any Ai L ci r B wr hri (Nat.le_trans hB hwz) hL hrm
      have hsl := saidK_le r L
      have HT := Lib.hid (take_snoc (rows := rows.map says) hli)
      have HSY : Hid (sayR (rows.map says) i = says r) := sayR_of (by rw [List.getElem?_map, hx]; rfl)
      have HMS : Hid (∀ x, x ∈ saidK r L ↔ x < 2 * L ∧ says r x = true) := fun x => mem_saidK
      generalize saidK r L = sl at hrs hsl HMS
      have HRS := Lib.hid hrs
      have hi0' : (0 : Int) ≤ (i : Int) := by omega
      have hi1 : (i : Int) < (rows.length : Int) := by omega
      clear hrs hri hz hli hx hrl hrm hlc hmc
      go_wp2_with fail
      refine HRS.out.mono ?_
      rintro e w5 ⟨V5, c5, rfl, ho5, hb5⟩
      have hw5 := hwr.trans (hb5.mono hwz)
      have HO5 := Lib.hid (own_below HO.out hb5)
      have HR5 : Hid (Reads w5 w5.heap.size 1 V5 sl.length (ints (natI sl))) := Reads.of_own ho5
      have HP5 : Hid (∀ ad : Addr, V5 = some ad → some ad.block ≠ (Value.slice V out.length co).ownBlock) := fun ad hV he => by
        have h1 := own_base_le ho5 ad hV
        have h2 := HO.out.lt ad.block he.symm
        omega
      have HG5 : Hid (Got out fun x => (x < 2 * L ∧ unionB (rows.map says) (l.take k) x = true) ∨ x ∈ sl.take 0) := HG.out.same fun x => by simp
      have hz5 := hw5.size
      clear ho5 hb5 HO HG HRS hcz
      go_wp2
      go_loopw [5, 9, 22] (fun vo _ i wi => ∃ (q : Nat) (out : List Nat) (V : Option Addr) (co : Nat), q ≤ sl.length ∧ i = .int .i64 q ∧ vo = .slice V out.length co ∧ Hid (Got out fun x => (x < 2 * L ∧ unionB (rows.map says) (l.take k) x = true) ∨ x ∈ sl.take q) ∧ Hid (wi.ownsRow w.heap.size 3 1 (.slice V out.length co) out.length (ints (natI out))) ∧ Hid (∀ ad : Addr, V5 = some ad → some ad.block ≠ (Value.slice V out.length co).ownBlock) ∧ Hid (Reads wi w5.heap.size 1 V5 sl.length (ints (natI sl))) ∧ Below w.heap.size w wi ∧ w5.heap.size ≤ wi.heap.size) (fun _ _ i _ => sl.length - (intOf i).toNat)
      case atStart => exact ⟨0, out, V, co, by omega, rfl, rfl, HG5, HO5, HP5, HR5, hw5, Nat.le_refl _⟩
      case round =>
        clear HG5 HO5 HP5 HR5 hw5 hci
        obtain ⟨q, out, V, co, hq, rfl, rfl, HG, HO, HP, HR5, hwi, h5i⟩ := hrel
        have hwiz := hwi.size
        have hol : out.length ≤ 2 * L := HG.out.le fun x hx => by
          rcases hx with hx | hx
          · exact hx.1
          · exact ((HMS.out x).1 (List.mem_of_mem_take hx)).1
        by_cases hqn : q < sl.length
        · obtain ⟨sad, z, rfl, hsab, hz, hcz⟩ := HR5.out.int_at hqn
          obtain ⟨x, hsx, rfl⟩ := natI_at hz
          have hct := fun (W : World) (h : Reads W W.heap.size 1 V out.length (ints (natI out))) => containsZ_any V out.length co (natI out) (x : Int) W.heap.size W h (by unfold Small; omega)
          rw [show (decide ((x : Int) ∈ natI out)) = decide (x ∈ out) from decide_eq_decide.2 mem_natI] at hct
          have HTS := Lib.hid (mem_take_succ hsx)
          have HCT := Lib.hid hct
          clear hct hz hsx
          by_cases hxo : x ∈ out
          · have hdx : decide (x ∈ out) = true := decide_eq_true hxo
            rw [hdx] at HCT
            have HG2 : Hid (Got out fun y => (y < 2 * L ∧ unionB (rows.map says) (l.take k) y = true) ∨ y ∈ sl.take (q + 1)) := HG.out.same fun y => by
              rw [HTS.out y]
              constructor
              · rintro (h | h | h)
                · exact .inl h
                · exact .inr h
                · subst h
                  exact (HG.out.2 y).1 hxo
              · rintro (h | h)
                · exact .inl h
                · exact .inr (.inl h)
            clear hxo hdx
            go_wp2_with fail
            refine (HCT.out _ (Reads.of_own HO.out)).mono ?_
            rintro e w6 ⟨rfl, rfl⟩
            go_wp2
            go_roundw
            case rel => exact ⟨q + 1, out, V, co, by omega, by go_num, rfl, HG2, HO, HP, HR5, hwi, h5i⟩
            case measure => simp [intOf]; omega
          · have hdx : decide (x ∈ out) = false := decide_eq_false hxo
            rw [hdx] at HCT
            have HG2 : Hid (Got (out ++ [x]) fun y => (y < 2 * L ∧ unionB (rows.map says) (l.take k) y = true) ∨ y ∈ sl.take (q + 1)) := HG.out.add hxo fun y => by
              rw [HTS.out y]
              exact ⟨fun h => by rcases h with h | h | h
                                 · exact .inl (.inl h)
                                 · exact .inl (.inr h)
                                 · exact .inr h, fun h => by rcases h with (h | h) | h
                                                             · exact .inl h
                                                             · exact .inr (.inl h)
                                                             · exact .inr (.inr h)⟩
            clear hxo hdx
            go_wp2_with fail
            refine (HCT.out _ (Reads.of_own HO.out)).mono ?_
            rintro e w6 ⟨rfl, rfl⟩
            go_wp2_with (at_builtin; refine wpList_append_own_at _ rfl _ _ _ rfl w.heap.size 3 i0 _ 1 8 Try.underlying63 hi0 hz0 hz1 hz2 rfl (by decide) _ out.length (ints (natI out)) rfl (HO.out.alloc _) ⟨wr.heap.size, 0, none⟩ 1 1 [.int .i64 x] rfl rfl (cells_newZ wr 3 [.int .i64 x]) (by simp [Value.oneCell']) (by unfold maxLen; omega) (by omega) (by simp; omega) ?_; intro v' w6 hown6 hgr6 hnil6 hat6; obtain ⟨V6, c6, rfl⟩ := own_form hown6)
            have hw6 := below_app (hwi.alloc hwiz _) (HO.out.alloc _) hgr6 (by simp; omega) (Nat.le_refl _)
            have HR6 := Lib.hid ((HR5.out.alloc h5i (.cells #[.int .i64 x] 3)).grownF hgr6 (by simp; omega) HP.out)
            have HP6 : Hid (∀ ad : Addr, some sad = some ad → some ad.block ≠ (Value.slice V6 (out.length + 1) c6).ownBlock) := fun ad hV he => by
              injection hV with hV
              subst hV
              rcases hat6 with h1 | h1
              · rw [h1] at he
                exact HP.out _ rfl he
              · rw [h1] at he
                injection he with he
                simp at he
                omega
            have h6z := hgr6.size
            simp only [World.size_alloc] at h6z
            have HO6 := Lib.hid hown6
            clear hown6 hgr6 hnil6 hat6 HR5 HP HO
            go_roundw
            case rel => exact ⟨q + 1, out ++ [x], V6, c6, by omega, by go_num, by rw [List.length_append]; rfl, HG2, by rw [List.length_append, natI_app, ints_append]; exact HO6, by rw [List.length_append]; exact HP6, HR6, hw6, by omega⟩
            case measure => simp [intOf]; omega
        · obtain rfl : q = sl.length := by omega
          have HG2 : Hid (Got out fun x => x < 2 * L ∧ unionB (rows.map says) (l.take (k + 1)) x = true) := HG.out.same fun y => by
            rw [List.take_length, HMS.out y, HT.out, HSY.out]
            unfold orB
            rw [Bool.or_eq_true]
            exact ⟨fun h => by rcases h with ⟨h1, h2 | h2⟩
                               · exact .inl ⟨h1, h2⟩
                               · exact .inr ⟨h1, h2⟩, fun h => by rcases h with h | h
                                                                  · exact ⟨h.1, .inl h.2⟩
                                                                  · exact ⟨h.1, .inr h.2⟩⟩
          clear HG HR5 HP
          go_wp2
          go_roundw
          case rel => exact ⟨k + 1, out, V, co, by omega, by go_num, rfl, HG2, HO, hwi⟩
          case measure => simp [intOf]; omega
    · obtain rfl : k = l.length := by omega
      have HE : Hid (out.length = cntN (2 * L) (unionB (rows.map says) l)) := by
        have := HG.out.len
        rwa [List.take_length] at this
      go_wp2
      go_ret
      exact ⟨by rw [← HE.out]; rfl, hwr⟩
end Go.Proofs.Ytphfckihdhmhpaa
