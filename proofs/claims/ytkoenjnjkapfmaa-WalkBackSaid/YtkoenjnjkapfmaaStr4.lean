/- What walk.Next answers. -/
import Derived.Test.YtkoenjnjkapfmaaStr3
import Derived.Test.YtkoenjnjkapfmaaBytes
import Derived.ArgAppend
namespace Go.Proofs.Ytkoenjnjkapfmaa
open Go.RowKit

theorem idx_head {a : List UInt8} (h : AlphaOk a) {c : UInt8} (hc : a[0]? = some c) : idx a c = 0 := by
  cases a with
  | nil => cases hc
  | cons x a =>
    obtain rfl : x = c := by simpa using hc
    simp [idx, Lib.indexByte]
theorem idx_of {a : List UInt8} (h : AlphaOk a) {k : Nat} {c : UInt8} (hc : a[k]? = some c) : c ∈ a ∧ idx a c = k := by
  have hm := List.mem_of_getElem? hc
  refine ⟨hm, ?_⟩
  obtain ⟨_, g1, l1⟩ := idx_spec hm
  have b1 := bt_get g1
  have b2 := bt_get hc
  have lk := getElem?_lt hc
  rcases Nat.lt_trichotomy (idx a c) k with h1 | h1 | h1
  · have := rises_lt h.2.2 _ _ h1 lk; omega
  · exact h1
  · have := rises_lt h.2.2 _ _ h1 l1; omega
theorem val_append (a : List UInt8) : ∀ p q : List UInt8, val a (p ++ q) = val a p * a.length ^ q.length + val a q
  | [], q => by simp [val]
  | c :: p, q => by
    show val a (c :: (p ++ q)) = _
    rw [val, val, val_append a p q, List.length_append, Nat.pow_add, Nat.add_mul]
    have : idx a c * (a.length ^ p.length * a.length ^ q.length) = idx a c * a.length ^ p.length * a.length ^ q.length := by rw [Nat.mul_assoc]
    omega
theorem val_top {a : List UInt8} (hm : 0 < a.length) : ∀ q : List UInt8, (∀ c ∈ q, idx a c + 1 = a.length) → val a q + 1 = a.length ^ q.length
  | [], _ => by simp [val]
  | c :: q, h => by
    have ih := val_top hm q (fun d hd => h d (by simp [hd]))
    have hc := h c (by simp)
    rw [val, List.length_cons, Nat.pow_succ, Nat.mul_comm (a.length ^ q.length)]
    have : (idx a c + 1) * a.length ^ q.length = a.length * a.length ^ q.length := by rw [hc]
    rw [Nat.add_mul, Nat.one_mul] at this
    omega
theorem val_zeros {a : List UInt8} {z : UInt8} (hz : idx a z = 0) : ∀ n, val a (List.replicate n z) = 0
  | 0 => by simp [val]
  | n + 1 => by rw [List.replicate_succ, val, hz, val_zeros hz n]; simp
/-- one sign raised, all behind it at their end: the next number -/
theorem val_next {a : List UInt8} {p q : List UInt8} {c d z : UInt8} (hm : 0 < a.length) (hcd : idx a d = idx a c + 1) (hz : idx a z = 0) (hq : ∀ c ∈ q, idx a c + 1 = a.length) :
    val a (p ++ [d] ++ List.replicate q.length z) = val a (p ++ [c] ++ q) + 1 := by
  have h1 := val_top hm q hq
  simp only [val_append, val_zeros hz, List.length_replicate, val, List.length_nil, List.length_singleton, hcd]
  simp only [Nat.pow_zero, Nat.mul_one, Nat.add_zero, Nat.pow_one]
  generalize a.length ^ q.length = P at *
  rw [show val a p * a.length + (idx a c + 1) = (val a p * a.length + idx a c) + 1 by omega, Nat.add_mul, Nat.one_mul]
  omega
theorem overA_rep {a : List UInt8} {z : UInt8} (hz : z ∈ a) (n : Nat) : OverA a (List.replicate n z) := fun c hc => by rw [(List.mem_replicate.1 hc).2]; exact hz
theorem OverA.app {a p q : List UInt8} (hp : OverA a p) (hq : OverA a q) : OverA a (p ++ q) := fun c hc => by
  rcases List.mem_append.1 hc with h | h
  · exact hp c h
  · exact hq c h

/-- what walk.Next leaves of a text of the alphabet -/
def NextSays (a s : List UInt8) (w : World) (e : Ending) (w' : World) : Prop :=
  ((∃ u : ByteArray, e = .returned (.tuple #[.string u, .int .i64 0]) ∧ OverOk a u.data.toList ∧ rank a u.data.toList = rank a s + 1) ∨
    (e = .returned (.tuple #[.string ⟨#[]⟩, .int .i64 12]) ∧ s.length = 6 ∧ rank a s + 1 = shN a.length 7)) ∧ Below w.heap.size w w'

theorem set_take {l : List Value} {n j : Nat} {u : Value} {x y : List Value} (h : l.take n = x) (hxy : x.set j u = y) : (l.set j u).take n = y := by
  rw [List.take_set, h, hxy]
theorem u8s_set (l : List UInt8) (j : Nat) (b : UInt8) : (u8s l).set j (.int .u8 b.toNat) = u8s (l.set j b) := by simp [u8s, List.map_set]

theorem set_mid (x y : UInt8) (q : List UInt8) : ∀ {p : List UInt8} {j : Nat}, p.length = j → (p ++ [x] ++ q).set j y = p ++ [y] ++ q
  | [], 0, _ => rfl
  | c :: p, j + 1, h => by
    have := set_mid x y q (p := p) (j := j) (by simpa using h)
    show c :: (p ++ [x] ++ q).set j y = c :: (p ++ [y] ++ q)
    rw [this]

theorem next_bad (a s : ByteArray) (w : World) (ha : a.size ≤ 140737488351232) (hs : s.size ≤ 140737488351232) (ho : ¬ OverOk a.data.toList s.data.toList) :
    Calls Try.prog 37 #[.string a, .string s] w fun e w' => (∃ n, e = .returned (.tuple #[.string ⟨#[]⟩, .int .i64 n]) ∧ n ≠ 0) ∧ Below w.heap.size w w' := by
  have HO := Lib.hid ho
  clear ho
  go_enter Try.func37, Try.ntmps37
  go_wp2_with fail
  refine (over_any a s _ ha hs).mono ?_
  rintro e w' ⟨⟨n, rfl, hn⟩, d, rfl⟩
  have h0 : n ≠ 0 := fun h => HO.out (hn.1 h)
  have H0 := Lib.hid h0
  have hne : (n != 0) = true := by simpa using h0
  clear hn h0
  go_wp2
  go_ret2
  exact ⟨⟨n, rfl, H0.out⟩, below_drewN (Below.refl _ _) d⟩

theorem string_grown {w : World} {base g n c : Nat} {z : UInt8} (h : w.ownsRow base 5 1 (.slice (some ⟨g, 0, none⟩) (n + 1) c) (n + 1) (u8s (List.replicate n z) ++ [.int .u8 z.toNat])) :
    (convert 86 9 (.slice (some ⟨g, 0, none⟩) (n + 1) c)).run Try.prog w = .ok (.string ⟨(List.replicate (n + 1) z).toArray⟩) w := by
  rcases h.2 with ⟨h1, _⟩ | ⟨g', cap, cur, hv, _, hh, _, _, _, ht⟩
  · cases h1
  · simp only [Value.slice.injEq, Option.some.injEq, Addr.mk.injEq] at hv
    obtain ⟨⟨rfl, _⟩, _, _⟩ := hv
    refine string_of Try.underlying86 Try.underlying5 Try.underlying9 (BlkZ.of hh) (by simp) ?_
    rw [Nat.mul_one] at ht
    rw [ht, List.replicate_succ', u8s_append]
    rfl
theorem u8_info : (Try.prog.info? 5).map (fun i => (i.zero, i.size, i.bytes)) = some (some (.int .u8 0), 1, 1) := by kernel_rfl
set_option maxHeartbeats 1000000 in
theorem next_any (a s : ByteArray) (w : World) (ha : a.size ≤ 140737488351232) (hs : s.size ≤ 140737488351232) (ho : OverOk a.data.toList s.data.toList) :
    Calls Try.prog 37 #[.string a, .string s] w (NextSays a.data.toList s.data.toList w) := by
  have hla := size_list a
  have hls := size_list s
  have h8 : a.size ≤ 8 := by have := ho.1.2.1; omega
  have h6 : s.size ≤ 6 := by have := ho.2.1; omega
  have h1 : 0 < a.size := by
    have := ho.1.1
    rcases Nat.eq_zero_or_pos a.size with h | h
    · exact absurd (List.eq_nil_of_length_eq_zero (hla.trans h)) this
    · exact h
  obtain ⟨z, hz⟩ : ∃ z, a.data.toList[0]? = some z := ⟨_, List.getElem?_eq_getElem (by rw [hla]; exact h1)⟩
  have hza : a[0] = z := by have := get_byte h1; rw [this] at hz; exact Option.some.inj hz
  have hzi := idx_head ho.1 hz
  have HLA := Lib.hid hla
  have HLS := Lib.hid hls
  have HO := Lib.hid ho
  have HZ := Lib.hid hz
  have HZA := Lib.hid hza
  have HZI := Lib.hid hzi
  clear hla hls ho hz hza hzi
  have hcv := fun W => run_bytes_of_string (P := Try.prog) W 9 86 5 s Try.underlying9 Try.underlying86 Try.underlying5
  go_enter Try.func37, Try.ntmps37
  go_wp2_with fail
  refine (over_any a s _ ha hs).mono ?_
  rintro e w' ⟨⟨n, rfl, hn⟩, d, rfl⟩
  obtain rfl := hn.2 HO.out
  clear hn
  go_wp2_with fail
  have hC := grownCap_ge (w.drewN d) s.size 0 5
  generalize grownCap (w.drewN d) s.size 0 5 = C at hC ⊢
  clear hcv
  obtain ⟨hb0, ht0, hs0⟩ := bytes_laid w 5 s C hC rfl
  have hw0 : Below w.heap.size w (w.alloc (.cells (bytesRow s C) 5 ((bytesRow s C).size, (bytesRow s C).size + 1))) := (by repeat (first | exact Below.refl _ _ | assumption | refine Below.drew ?_ | refine below_drewN ?_ _ | refine Below.alloc ?_ (by first | omega | (simp; omega) | simp) _ | refine Below.setCell ?_ (by first | omega | (simp; omega) | simp) _))
  generalize bytesRow s C = R at hb0 ht0 hs0 hw0 ⊢
  have HT0 := Lib.hid ht0
  have HS0 := Lib.hid hs0
  clear ht0 hs0
  go_loopw [8, 9] (fun i _ wr => ∃ k : Nat, k ≤ s.size ∧ i = .int .i64 ((k : Int) - 1) ∧ (∀ c ∈ s.data.toList.drop k, idx a.data.toList c + 1 = a.size) ∧
    (∃ cs, BlkZ wr w.heap.size 5 cs ∧ cs.size = C ∧ cs.toList.take s.size = u8s (s.data.toList.take k ++ List.replicate (s.size - k) z)) ∧ Below w.heap.size w wr) (fun i _ _ => (intOf i + 1).toNat)
  case atStart =>
    refine ⟨s.size, Nat.le_refl _, rfl, ?_, ⟨R, hb0, HS0.out, ?_⟩, ?_⟩
    · rw [List.drop_of_length_le (by rw [HLS.out]; omega)]; simp
    · rw [HT0.out, List.take_of_length_le (l := s.data.toList) (by rw [HLS.out]; omega)]; simp
    · exact below_drewN hw0 _
  case round =>
    obtain ⟨k, hk, rfl, hmax, ⟨cs, hb, hcs, hct⟩, hbw⟩ := hrel
    have HM := Lib.hid hmax
    have HCS := Lib.hid hcs
    have HCT := Lib.hid hct
    clear hmax hcs hct hb0 hw0
    cases k with
    | succ j =>
      have hg := get_byte (show j < s.size by omega)
      have hm : s[j] ∈ a.data.toList := HO.out.2.2 _ (List.mem_of_getElem? hg)
      obtain ⟨hi1, hi3, hi2⟩ := idx_spec hm
      rw [HLA.out] at hi2
      have hji : ((j + 1 : Nat) : Int) - 1 = (j : Int) := by omega
      rw [hji]
      have HG := Lib.hid hg
      have HI := Lib.hid hi1
      have HI3 := Lib.hid hi3
      clear hg hm hi1 hi3 hji
      go_wp2_with fail
      refine (indexByte_any _ _ _).mono ?_
      rintro e w' ⟨rfl, rfl⟩
      have hx : ((s[j].toNat : Nat) : Int).toNat.toUInt8 = s[j] := by simp
      rw [hx, HI.out]
      clear hx
      generalize hd : idx a.data.toList s[j] = D at hi2 ⊢
      have HD := Lib.hid hd
      clear hd
      have hcell := hb.cell j
      have hfz := hb.frozen (show j < cs.size by rw [HCS.out]; omega)
      rw [Array.getElem?_eq_getElem (by rw [HCS.out]; omega)] at hcell
      generalize cs[j]'(by rw [HCS.out]; omega) = u0 at hcell
      by_cases hlt : D + 1 < a.size
      · have hgb := get_byte hlt
        have hset : (cs.setIfInBounds j (.int .u8 a[D + 1].toNat)).toList.take s.size = u8s (s.data.toList.take j ++ [a[D + 1]] ++ List.replicate (s.size - (j + 1)) z) := by
          rw [Array.toList_setIfInBounds]
          refine set_take HCT.out ?_
          rw [u8s_set, take_succ_of HG.out]
          congr 1
          have hlj : (s.data.toList.take j).length = j := by rw [List.length_take, HLS.out]; omega
          exact set_mid _ _ _ hlj
        have hl : (s.data.toList.take j ++ [a[D + 1]] ++ List.replicate (s.size - (j + 1)) z).length = s.size := by
          simp only [List.length_append, List.length_take, HLS.out, List.length_singleton, List.length_replicate]; omega
        have hstr := fun c => string_of (P := Try.prog) (c := c) Try.underlying86 Try.underlying5 Try.underlying9 (hb.set_ j (.int .u8 a[D + 1].toNat)) hl hset
        have hfin : OverOk a.data.toList (s.data.toList.take j ++ [a[D + 1]] ++ List.replicate (s.size - (j + 1)) z) ∧ rank a.data.toList (s.data.toList.take j ++ [a[D + 1]] ++ List.replicate (s.size - (j + 1)) z) = rank a.data.toList s.data.toList + 1 := by
          obtain ⟨hmb, hib⟩ := idx_of HO.out.1 hgb
          have hmz := (idx_of HO.out.1 HZ.out).1
          refine ⟨⟨HO.out.1, by rw [hl]; exact h6, OverA.app (OverA.app (overA_take HO.out.2.2 j) (fun c hc => by rw [List.mem_singleton.1 hc]; exact hmb)) (overA_rep hmz _)⟩, ?_⟩
          have hsp : s.data.toList = s.data.toList.take j ++ [s[j]] ++ s.data.toList.drop (j + 1) := by
            rw [← take_succ_of HG.out, List.take_append_drop]
          have hld : (s.data.toList.drop (j + 1)).length = s.size - (j + 1) := by rw [List.length_drop, HLS.out]
          have hv := val_next (p := s.data.toList.take j) (q := s.data.toList.drop (j + 1)) (c := s[j]) (d := a[D + 1]) (z := z) (by rw [HLA.out]; exact h1) (by rw [hib, HD.out]) HZI.out (by rw [HLA.out]; exact HM.out)
          rw [← hsp, hld] at hv
          unfold rank
          rw [hl, HLS.out, hv]
          omega
        have HSTR := Lib.hid hstr
        have HFIN := Lib.hid hfin
        clear hgb hset hl hstr hfin
        have hstr := HSTR.out C
        go_wp2
        go_ret2
        exact ⟨.inl ⟨_, rfl, by have h := HFIN.out; simpa using h⟩, hbw.setCell (Nat.le_refl _) _⟩
      · have hDa : D + 1 = a.size := by omega
        have hset : (cs.setIfInBounds j (.int .u8 z.toNat)).toList.take s.size = u8s (s.data.toList.take j ++ List.replicate (s.size - j) z) := by
          rw [Array.toList_setIfInBounds]
          refine set_take HCT.out ?_
          rw [u8s_set, take_succ_of HG.out]
          congr 1
          have hlj : (s.data.toList.take j).length = j := by rw [List.length_take, HLS.out]; omega
          rw [set_mid _ _ _ hlj, show s.size - j = (s.size - (j + 1)) + 1 by omega, List.replicate_succ]
          simp
        have HSET := Lib.hid hset
        have hza := HZA.out
        have hmx : ∀ c ∈ s.data.toList.drop j, idx a.data.toList c + 1 = a.size := by
          intro c hc
          rw [List.drop_eq_getElem_cons (by rw [HLS.out]; omega)] at hc
          rcases List.mem_cons.1 hc with rfl | hc
          · have : s.data.toList[j]'(by rw [HLS.out]; omega) = s[j] := by
              have := HG.out
              rw [List.getElem?_eq_getElem (by rw [HLS.out]; omega)] at this
              exact Option.some.inj this
            rw [this, HD.out]
            exact hDa
          · exact HM.out c hc
        have HMX := Lib.hid hmx
        clear hset hmx
        go_wp2
        go_roundw
        case rel => exact ⟨j, by omega, rfl, HMX.out, ⟨_, hb.set_ j _, by simp [HCS.out], HSET.out⟩, hbw.setCell (Nat.le_refl _) _⟩
        case measure => simp [intOf]
    | zero =>
      have htop : ∀ c ∈ s.data.toList, idx a.data.toList c + 1 = a.size := by simpa using HM.out
      have hv := val_top (a := a.data.toList) (by have := HLA.out; omega) s.data.toList (by rw [HLA.out]; exact htop)
      have HV := Lib.hid hv
      clear htop hv
      by_cases h66 : s.size = 6
      · have hr : rank a.data.toList s.data.toList + 1 = shN a.data.toList.length 7 := by
          have h2 := HV.out
          unfold rank
          rw [HLS.out, h66] at h2 ⊢
          rw [show shN a.data.toList.length 7 = shN a.data.toList.length 6 + a.data.toList.length ^ 6 from rfl]
          omega
        have HR := Lib.hid hr
        have HL6 := Lib.hid (HLS.out.trans h66)
        have h6b : ((s.size : Int) == 6) = true := by rw [beq_iff_eq]; omega
        clear hr
        go_wp2
        go_ret2
        exact ⟨.inr ⟨rfl, HL6.out, HR.out⟩, hbw⟩
      · have h6b : ((s.size : Int) == 6) = false := by simp; omega
        have hza := HZA.out
        have hct : cs.toList.take s.size = u8s (List.replicate s.size z) := by simpa using HCT.out
        have hfin : OverOk a.data.toList (List.replicate (s.size + 1) z) ∧ rank a.data.toList (List.replicate (s.size + 1) z) = rank a.data.toList s.data.toList + 1 := by
          have hmz := (idx_of HO.out.1 HZ.out).1
          refine ⟨⟨HO.out.1, by rw [List.length_replicate]; omega, overA_rep hmz _⟩, ?_⟩
          have h2 := HV.out
          unfold rank
          rw [val_zeros HZI.out, List.length_replicate, HLS.out, shN]
          rw [HLS.out] at h2
          omega
        have HCT2 := Lib.hid hct
        have HFIN := Lib.hid hfin
        have hsz := hbw.size
        obtain ⟨i0, hi0, hz0, hz1, hz2⟩ := info_parts u8_info
        have C1 : Hid (∀ j u, (u8s (List.replicate s.size z))[j]? = some u → (wr.alloc (.cells #[.int .u8 z.toNat] 5)).cell? ⟨w.heap.size, 0 + j, none⟩ = some u) := by
          intro j u hu
          have hj := getElem?_lt hu
          rw [u8s_length, List.length_replicate] at hj
          rw [Nat.zero_add, (hb.alloc _).cell j, ← Array.getElem?_toList, ← hu, ← HCT2.out, List.getElem?_take, if_pos hj]
        clear hct hfin
        by_cases hroom : s.size + 1 ≤ C
        · have C2 : Hid (s.size + 1 ≤ C → ∀ j, j < [Value.int .u8 z.toNat].length → ((wr.alloc (.cells #[.int .u8 z.toNat] 5)).cell? ⟨w.heap.size, 0 + s.size * 1 + j, none⟩).isSome = true ∧ (wr.alloc (.cells #[.int .u8 z.toNat] 5)).frozen? ⟨w.heap.size, 0 + s.size * 1 + j, none⟩ = false) := by
            intro _ j hj
            have hj0 : j = 0 := by simpa using hj
            subst hj0
            rw [Nat.zero_add, Nat.mul_one, Nat.add_zero]
            refine ⟨?_, (hb.alloc _).frozen (by rw [HCS.out]; omega)⟩
            rw [(hb.alloc _).cell, Array.getElem?_eq_getElem (by rw [HCS.out]; omega)]
            rfl
          have hstr : ∀ c, (convert 86 9 (.slice (some ⟨w.heap.size, 0, none⟩) (s.size + 1) c)).run Try.prog ((wr.alloc (.cells #[.int .u8 z.toNat] 5)).setCells w.heap.size s.size [.int .u8 z.toNat]) = .ok (.string ⟨(List.replicate (s.size + 1) z).toArray⟩) ((wr.alloc (.cells #[.int .u8 z.toNat] 5)).setCells w.heap.size s.size [.int .u8 z.toNat]) := by
            intro c
            refine string_of Try.underlying86 Try.underlying5 Try.underlying9 ((hb.alloc _).set_ s.size (.int .u8 z.toNat)) (by simp) ?_
            rw [Array.toList_setIfInBounds, List.take_add_one, List.take_set_of_le (Nat.le_refl _), HCT2.out, List.getElem?_set_self (by rw [Array.length_toList, HCS.out]; omega), List.replicate_succ', u8s_append]
            rfl
          have HSTR := Lib.hid hstr
          clear hstr
          go_wp2_with (at_builtin; refine wpList_append_arg _ rfl _ _ _ rfl 5 i0 _ 1 1 Try.underlying86 hi0 hz0 hz1 hz2 rfl (by omega) w.heap.size 0 s.size C (u8s (List.replicate s.size z)) rfl (by simp [u8s_length]) C1.out ⟨wr.heap.size, 0, none⟩ 1 1 [.int .u8 z.toNat] rfl rfl (World.news_of_block (cs := #[.int .u8 z.toNat]) (t := 5) (fr := (0, 0)) (heap_alloc_new wr _)) (by simp [Value.oneCell']) C2.out (by unfold maxLen; omega) (by omega) (fun _ => ?_) (fun h => absurd h (by omega)); have hstr := HSTR.out C)
          go_ret2
          exact ⟨.inl ⟨_, rfl, by have h := HFIN.out; simpa using h⟩, (hbw.alloc hsz _).setCell (Nat.le_refl _) _⟩
        · go_wp2_with (at_builtin; refine wpList_append_arg _ rfl _ _ _ rfl 5 i0 _ 1 1 Try.underlying86 hi0 hz0 hz1 hz2 rfl (by omega) w.heap.size 0 s.size C (u8s (List.replicate s.size z)) rfl (by simp [u8s_length]) C1.out ⟨wr.heap.size, 0, none⟩ 1 1 [.int .u8 z.toNat] rfl rfl (World.news_of_block (cs := #[.int .u8 z.toNat]) (t := 5) (fr := (0, 0)) (heap_alloc_new wr _)) (by simp [Value.oneCell']) (fun h => absurd h (by omega)) (by unfold maxLen; omega) (by omega) (fun h => absurd h (by omega)) (fun _ v' w1 hown hgr => ?_); obtain ⟨g1, cap1, rfl, hg1, hg2⟩ := hown.form (by omega); have hstr := string_grown hown)
          go_ret2
          exact ⟨.inl ⟨_, rfl, by have h := HFIN.out; simpa using h⟩, (hbw.alloc hsz _).grown hgr (by simp; omega) (fun k hk => by cases hk)⟩
end Go.Proofs.Ytkoenjnjkapfmaa
