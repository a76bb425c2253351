/- (*builder).walk at sequences, alternatives, and what is there again and again. (*builder).walk at what is there again and again, or not at all; and the whole. -/
import Derived.Test.YtndhbdbfjkmloaaJTopTree14
namespace Go.Proofs.Ytndhbdbfjkmloaa
open Go.RowKit Go.Maps

/-- where a walk stands: so many trees more -/
structure TwI (c : PC) (base tb : Nat) (r0 f0 : Int) (ts : List Tr) (own : Option Nat) (w : World) (N : List Tr) (own' : Option Nat) (wr : World) : Prop where
  pp : PP c wr
  tbx : TBx c wr base tb r0 f0 (ts ++ N) own'
  mv : Moved w own own'
  tk : Tk c tb own w wr
section
variable {c : PC} {base tb bb : Nat} {r0 f0 : Int} {ts N N' : List Tr} {own own' : Option Nat} {w wr wr' : World}
theorem TwI.start (hpp : PP c w) (hT : TBx c w base tb r0 f0 ts own) : TwI c base tb r0 f0 ts own w [] own w := ⟨hpp, by rw [List.append_nil]; exact hT, Moved.refl _ _, Tk.refl _ _ _ _⟩
theorem TwI.past (h : TwI c base tb r0 f0 ts own w N own' wr) (hok : c.Ok) (hpp : PP c wr') (hk : Keeps c wr wr') : TwI c base tb r0 f0 ts own w N own' wr' := ⟨hpp, h.tbx.keeps hok hk, h.mv, h.tk.trans (Tk.of_keeps (own := own') hk) h.mv⟩
theorem TwI.below (h : TwI c base tb r0 f0 ts own w N own' wr) (hok : c.Ok) (hb : Below wr.heap.size wr wr') : TwI c base tb r0 f0 ts own w N own' wr' := h.past hok (h.pp.below hok hb) (Keeps.of_below hb)
theorem TwI.alloc (h : TwI c base tb r0 f0 ts own w N own' wr) (hok : c.Ok) (o : Obj) : TwI c base tb r0 f0 ts own w N own' (wr.alloc o) := h.below hok ((Below.refl _ _).alloc (Nat.le_refl _) o)
theorem TwI.drew (h : TwI c base tb r0 f0 ts own w N own' wr) (hok : c.Ok) : TwI c base tb r0 f0 ts own w N own' wr.drew := h.below hok (Below.refl _ _).drew
theorem TwI.bd (h : TwI c base tb r0 f0 ts own w N own' wr) (hok : c.Ok) (hT : TBx c w base tb r0 f0 ts own) (hb : BdOk c bb w) : BdOk c bb wr := hb.tk hok hT h.tk
theorem TwI.low (h : TwI c base tb r0 f0 ts own w N own' wr) (hok : c.Ok) (hT : TBx c w base tb r0 f0 ts own) : Below c.B w wr := by
  have := hok.Bb
  have := hok.BP
  have := hok.BM
  have := hT.lo
  exact h.tk.below (by omega) (by omega) (by omega) (by omega) (by omega) fun k hk => by have := hT.own_lt k hk; omega
theorem TwI.walked {q : Nat} {e : Ending} (h : TwI c base tb r0 f0 ts own w N own' wr) (hw : TWalkQ c base tb r0 f0 (ts ++ N ++ N') own' q wr e wr') : e = .returned (.int .i64 q) ∧ ∃ own2, TwI c base tb r0 f0 ts own w (N ++ N') own2 wr' := by
  obtain ⟨h1, h2, own2, h3, h4, h5⟩ := hw
  exact ⟨h1, own2, h2, by rw [← List.append_assoc]; exact h3, h.mv.trans h4 h.tk.size, h.tk.trans h5 h.mv⟩
theorem TwI.done {q : Nat} (h : TwI c base tb r0 f0 ts own w N own' wr) : TWalkQ c base tb r0 f0 (ts ++ N) own q w (.returned (.int .i64 q)) wr := ⟨rfl, h.pp, own', h.tbx, h.mv, h.tk⟩
end

set_option maxRecDepth 100000 in
set_option maxHeartbeats 8000000 in
theorem twalk_seq {c : PC} (F : c.Fit) {n : Nat} (hW : ∀ m, m ≤ n → DoesWalk c m) {a b d1 d2 : Int} {t : ByteArray} {ks : List Ex} {cs : List Value} {p q bb base tb : Nat} {r0 f0 : Int} {ts : List Tr} {own : Option Nat} {w : World} (Wg : WellG c.g) (hE : ExIs w c.B (.mk 5 a b d1 d2 t ks) cs) (hR : ∀ e ∈ ks, RtW c.g e) (hn : nodesAll ks ≤ c.lim)
    (hev : evJ c.g c.s.data.toList n (.seq ks) p = some (some q)) (hp : p ≤ c.s.data.toList.length) (hpp : PP c w) (hbd : BdOk c bb w) (hT : TBx c w base tb r0 f0 ts own) (hl : ts.length + (trJ c.g c.s.data.toList n (.seq ks) p).length ≤ 15000000) :
    Calls Try.prog 36 #[.pointer (some ⟨bb, 0, none⟩), .agg cs.toArray, .int .i64 p, .pointer (some ⟨tb, 3, none⟩)] w (TWalkQ c base tb r0 f0 (ts ++ trJ c.g c.s.data.toList n (.seq ks) p) own q w) := by
  have hok := F.ok
  have hBb := hok.Bb
  have hsz := hpp.size
  have hL := F.len
  obtain ⟨ht, KA, kcp, rfl, hkc, hkm, _⟩ := hE.shape
  have hm8 : ks.length ≤ 9223372036854775807 := by unfold maxLen at hkm; omega
  unfold exCells
  have hI := (TwI.start hpp hT).alloc hok (.cells #[.int .i64 5, .int .u64 a, .int .u64 b, .int .u64 d1, .int .u64 d2, .string t, .slice KA ks.length kcp] 27)
  generalize hTT : trJ c.g c.s.data.toList n (.seq ks) p = TT at hl ⊢
  generalize hQ : TWalkQ c base tb r0 f0 (ts ++ TT) own q w = Q
  have HQ := Lib.hid hQ
  have HE := Lib.hid hE
  have HW := Lib.hid hW
  have HEV := Lib.hid hev
  have HRR := Lib.hid hR
  have HTT : Hid ([] ++ trJ c.g c.s.data.toList n (.seq ks) p = TT) := by show _ = _; rw [List.nil_append]; exact hTT
  have HBD := Lib.hid hbd
  have HT := Lib.hid hT
  have HPL : Hid (∀ e ∈ ks, nodes e ≤ c.lim) := fun e he => Nat.le_trans (nodesAll_mem he) hn
  clear hQ hE hW hev hR hTT hbd hT hpp hn
  go_enter Try.func36, Try.ntmps36
  go_wp2
  go_loopw [2, 58] (fun av i wr => ∃ (j p' n' : Nat) (N : List Tr) (own' : Option Nat), j ≤ ks.length ∧ i = .int .i64 j ∧ av = .int .i64 p' ∧ n' ≤ n ∧ p' ≤ c.s.data.toList.length ∧ Hid (evJ c.g c.s.data.toList n' (.seq (ks.drop j)) p' = some (some q)) ∧ Hid (N ++ trJ c.g c.s.data.toList n' (.seq (ks.drop j)) p' = TT) ∧ TwI c base tb r0 f0 ts own w N own' wr) (fun _ i _ => ks.length - (intOf i).toNat)
  case atStart => exact ⟨0, p, n, [], own, by omega, rfl, rfl, Nat.le_refl _, hp, HEV, HTT, hI⟩
  case round =>
    clear hI hp
    obtain ⟨j, p', n', N, own', hj, rfl, rfl, hn', hp', HV, HN, hI⟩ := hrel
    by_cases hjk : j < ks.length
    · obtain ⟨ad, k', a', b', c', d', t', ks', A', cp', rfl, hab, hej, hE', ⟨e0, e1, e2, e3, e4, e5, e6⟩⟩ := (HE.out.on (hI.low hok HT.out)).kid hjk
      have hv := HV.out
      have hN := HN.out
      rw [drop_of hej] at hv hN
      cases n' with
      | zero => cases hv
      | succ n' =>
      rw [evJ.eq_def] at hv
      rw [trJ.eq_def] at hN
      dsimp only at hv hN
      cases he : evJ c.g c.s.data.toList n' (.ex (.mk k' a' b' c' d' t' ks')) p' with
      | none => rw [he] at hv; cases hv
      | some u =>
      cases u with
      | none => rw [he] at hv; cases hv
      | some to_ =>
      rw [he] at hv hN
      dsimp only at hv hN
      have hmem := List.mem_of_getElem? hej
      have hto := ((told (s := c.s.data.toList) (fits_of Wg.right) n').1 _ p' _ (HRR.out _ hmem).1 hp' he).2.1
      have hIa := hI.alloc hok (.cells #[.int .i64 k', .int .u64 a', .int .u64 b', .int .u64 c', .int .u64 d', .string t', .slice A' ks'.length cp'] 27)
      have hlen := congrArg List.length hN
      simp only [List.length_append] at hlen
      have hcall := HW.out n' (by omega) (.mk k' a' b' c' d' t' ks') p' to_ _ bb base tb r0 f0 (ts ++ N) own' _ he (hE'.on (((Below.refl _ _).alloc (by have := hI.pp.size; omega) _ : Below c.B wr (wr.alloc (.cells #[.int .i64 k', .int .u64 a', .int .u64 b', .int .u64 c', .int .u64 d', .string t', .slice A' ks'.length cp'] 27))))) (HRR.out _ hmem) (HPL.out _ hmem) hp' hIa.pp (hIa.bd hok HT.out HBD.out) hIa.tbx (by rw [List.length_append]; omega)
      have HC := Lib.hid hcall
      have HIA := Lib.hid hIa
      have HV2 := Lib.hid hv
      have HN2 : Hid ((N ++ trJ c.g c.s.data.toList n' (.ex (.mk k' a' b' c' d' t' ks')) p') ++ trJ c.g c.s.data.toList n' (.seq (ks.drop (j + 1))) to_ = TT) := by show _ = _; rw [List.append_assoc]; exact hN
      clear hcall hIa hv hN hlen HV HN hE' hej hmem he hI
      go_wp2_with fail
      refine (HC.out).mono ?_
      rintro e' w2 hw2
      obtain ⟨rfl, own2, hI2⟩ := HIA.out.walked hw2
      clear hw2
      go_wp2
      go_roundw
      case rel => exact ⟨j + 1, to_, n', _, own2, by omega, by go_num, rfl, by omega, hto, HV2, HN2, hI2⟩
      case measure => simp [intOf]; omega
    · obtain rfl : j = ks.length := by omega
      have hv := HV.out
      have hN := HN.out
      rw [List.drop_length] at hv hN
      have hpq : p' = q := by
        cases n' with
        | zero => cases hv
        | succ n' => rw [evJ.eq_def] at hv; dsimp only at hv; injection hv with hv; injection hv
      have hNT : N = TT := by
        cases n' with
        | zero => cases hv
        | succ n' => rw [trJ.eq_def] at hN; simpa using hN
      subst hpq hNT
      have HF : Hid (Q (.returned (.int .i64 p')) wr) := HQ.out ▸ hI.done
      clear hv hN HQ hI
      go_wp2
      exact HF.out

/-- what a look at a kid reads -/
structure TwK (c : PC) (bb xb : Nat) (cs : Array Value) (W : World) : Prop where
  bd : BdOk c bb W
  box : Blk W xb 27 cs

set_option maxRecDepth 100000 in
set_option maxHeartbeats 8000000 in
theorem twalk_alt {c : PC} (F : c.Fit) {n : Nat} (hW : ∀ m, m ≤ n → DoesWalk c m) {a b d1 d2 : Int} {t : ByteArray} {ks : List Ex} {cs : List Value} {p q bb base tb : Nat} {r0 f0 : Int} {ts : List Tr} {own : Option Nat} {w : World} (Wg : WellG c.g) (hE : ExIs w c.B (.mk 6 a b d1 d2 t ks) cs) (hR : ∀ e ∈ ks, RtW c.g e) (hn : nodesAll ks ≤ c.lim)
    (hev : evJ c.g c.s.data.toList n (.alt ks) p = some (some q)) (hp : p ≤ c.s.data.toList.length) (hpp : PP c w) (hbd : BdOk c bb w) (hT : TBx c w base tb r0 f0 ts own) (hl : ts.length + (trJ c.g c.s.data.toList n (.alt ks) p).length ≤ 15000000) :
    Calls Try.prog 36 #[.pointer (some ⟨bb, 0, none⟩), .agg cs.toArray, .int .i64 p, .pointer (some ⟨tb, 3, none⟩)] w (TWalkQ c base tb r0 f0 (ts ++ trJ c.g c.s.data.toList n (.alt ks) p) own q w) := by
  have hok := F.ok
  have hBb := hok.Bb
  have hP := hok.P
  have hM := hok.M
  have hsz := hpp.size
  have hL := F.len
  have hlo := hT.lo
  obtain ⟨ht, KA, kcp, rfl, hkc, hkm, _⟩ := hE.shape
  have hm8 : ks.length ≤ 9223372036854775807 := by unfold maxLen at hkm; omega
  unfold exCells
  have hI := (TwI.start hpp hT).alloc hok (.cells #[.int .i64 6, .int .u64 a, .int .u64 b, .int .u64 d1, .int .u64 d2, .string t, .slice KA ks.length kcp] 27)
  generalize hTT : trJ c.g c.s.data.toList n (.alt ks) p = TT at hl ⊢
  generalize hQ : TWalkQ c base tb r0 f0 (ts ++ TT) own q w = Q
  have HQ := Lib.hid hQ
  have HE := Lib.hid hE
  have HW := Lib.hid hW
  have HEV := Lib.hid hev
  have HRR := Lib.hid hR
  have HTT := Lib.hid hTT
  have HBD := Lib.hid hbd
  have HT := Lib.hid hT
  have HPL : Hid (∀ e ∈ ks, nodes e ≤ c.lim) := fun e he => Nat.le_trans (nodesAll_mem he) hn
  clear hQ hE hW hev hR hTT hbd hT hpp hn
  go_enter Try.func36, Try.ntmps36
  go_wp2
  go_loopw [73] (fun i wr => ∃ (j n' : Nat), j ≤ ks.length ∧ i = .int .i64 j ∧ n' ≤ n ∧ Hid (evJ c.g c.s.data.toList n' (.alt (ks.drop j)) p = some (some q)) ∧ Hid (trJ c.g c.s.data.toList n' (.alt (ks.drop j)) p = TT) ∧ TwI c base tb r0 f0 ts own w [] own wr) (fun i _ => ks.length - (intOf i).toNat)
  case atStart => exact ⟨0, n, by omega, rfl, Nat.le_refl _, HEV, HTT, hI⟩
  case round =>
    clear hI
    obtain ⟨j, n', hj, rfl, hn', HV, HN, hI⟩ := hrel
    by_cases hjk : j < ks.length
    · obtain ⟨ad, k', a', b', c', d', t', ks', A', cp', rfl, hab, hej, hE', ⟨e0, e1, e2, e3, e4, e5, e6⟩⟩ := (HE.out.on (hI.low hok HT.out)).kid hjk
      have hv := HV.out
      have hN := HN.out
      rw [drop_of hej] at hv hN
      cases n' with
      | zero => cases hv
      | succ n' =>
      rw [evJ.eq_def] at hv
      rw [trJ.eq_def] at hN
      dsimp only at hv hN
      cases he : evJ c.g c.s.data.toList n' (.ex (.mk k' a' b' c' d' t' ks')) p with
      | none => rw [he] at hv; cases hv
      | some u =>
      rw [he] at hv hN
      have hmem := List.mem_of_getElem? hej
      have hIa := hI.alloc hok (.cells #[.int .i64 k', .int .u64 a', .int .u64 b', .int .u64 c', .int .u64 d', .string t', .slice A' ks'.length cp'] 27)
      have hbx : Blk (wr.alloc (.cells #[.int .i64 k', .int .u64 a', .int .u64 b', .int .u64 c', .int .u64 d', .string t', .slice A' ks'.length cp'] 27)) wr.heap.size 27 #[.int .i64 k', .int .u64 a', .int .u64 b', .int .u64 c', .int .u64 d', .string t', .slice A' ks'.length cp'] := blk_at rfl
      have hE2 : ExIs (wr.alloc (.cells #[.int .i64 k', .int .u64 a', .int .u64 b', .int .u64 c', .int .u64 d', .string t', .slice A' ks'.length cp'] 27)) c.B (.mk k' a' b' c' d' t' ks') (exCells k' a' b' c' d' t' A' ks'.length cp') := hE'.on ((Below.refl _ _).alloc (by have := hI.pp.size; omega) _)
      have hRe := HRR.out _ hmem
      have hPe := HPL.out _ hmem
      have hkbz : c.base ≤ wr.heap.size := hI.pp.size
      have HIA := Lib.hid hIa
      have HBX := Lib.hid hbx
      have HE2 := Lib.hid hE2
      have HEE := Lib.hid he
      have HV2 := Lib.hid hv
      have HN2 := Lib.hid hN
      clear hIa hbx hE2 hv hN HV HN hE' hej hmem hI he
      go_upto_region 20 with fail
      generalize (wr.alloc (.cells #[.int .i64 k', .int .u64 a', .int .u64 b', .int .u64 c', .int .u64 d', .string t', .slice A' ks'.length cp'] 27)) = w1 at HIA HBX HE2 ⊢
      generalize wr.heap.size = xb at HBX hkbz ⊢
      clear e0 e1 e2 e3 e4 e5 e6
      refine wp_region_l (TwK c bb xb #[.int .i64 k', .int .u64 a', .int .u64 b', .int .u64 c', .int .u64 d', .string t', .slice A' ks'.length cp']) (fun i => i == 6) (by kernel_rfl) ?_
      have hC : TwK c bb xb #[.int .i64 k', .int .u64 a', .int .u64 b', .int .u64 c', .int .u64 d', .string t', .slice A' ks'.length cp'] w1.drew := ⟨(HIA.out.drew hok).bd hok HT.out HBD.out, HBX.out.drew⟩
      have HID := Lib.hid (HIA.out.drew hok)
      have HED := Lib.hid (HE2.out.on (w' := w1.drew) (Below.refl _ _).drew)
      generalize w1.drew = wd at hC HID HED ⊢
      clear HIA HBX HE2
      apply L.rdt (i := 0) rfl (by kernel_rfl) hC rfl
      · intro W hW
        skip
        unfold readW
        go_simp
        first | rfl | exact ⟨rfl, rfl⟩
      first | simp only [Act.put, List.setIfInBounds_toArray, List.set_cons_succ, List.set_cons_zero] | skip
      apply L.rdt (i := 1) rfl (by kernel_rfl) hC rfl
      · intro W hW
        skip
        unfold readW
        go_simp
        first | rfl | exact ⟨rfl, rfl⟩
      first | simp only [Act.put, List.setIfInBounds_toArray, List.set_cons_succ, List.set_cons_zero] | skip
      apply L.rdt (i := 2) rfl (by kernel_rfl) hC rfl
      · intro W hW
        skip
        unfold readW
        go_simp
        first | rfl | exact ⟨rfl, rfl⟩
      first | simp only [Act.put, List.setIfInBounds_toArray, List.set_cons_succ, List.set_cons_zero] | skip
      apply L.rdt (i := 3) rfl (by kernel_rfl) hC rfl
      · intro W hW
        have n0 := hW.bd.c0
        unfold readW
        go_simp
        first | rfl | exact ⟨rfl, rfl⟩
      first | simp only [Act.put, List.setIfInBounds_toArray, List.set_cons_succ, List.set_cons_zero] | skip
      apply L.rdt (i := 4) rfl (by kernel_rfl) hC rfl
      · intro W hW
        have n0 := hW.box.cell 0; have n1 := hW.box.cell 1; have n2 := hW.box.cell 2; have n3 := hW.box.cell 3; have n4 := hW.box.cell 4; have n5 := hW.box.cell 5; have n6 := hW.box.cell 6
        unfold readW
        go_simp
        first | rfl | exact ⟨rfl, rfl⟩
      first | simp only [Act.put, List.setIfInBounds_toArray, List.set_cons_succ, List.set_cons_zero] | skip
      apply L.rdt (i := 5) rfl (by kernel_rfl) hC rfl
      · intro W hW
        skip
        unfold readW
        go_simp
        first | rfl | exact ⟨rfl, rfl⟩
      first | simp only [Act.put, List.setIfInBounds_toArray, List.set_cons_succ, List.set_cons_zero] | skip
      have hdo := does_ev F Wg HED.out hRe hPe hp HEE.out HID.out.pp
      unfold exCells at hdo
      have HDO := Lib.hid hdo
      have HBX := Lib.hid hC.box
      clear hdo hC
      apply L.one (i := 6) rfl (by kernel_rfl) rfl
      unfold stepT
      go_simp
      go_at_call 52
      refine (HDO.out).mono ?_
      rintro e w2 ⟨rfl, hp2, hk2⟩
      have hI2 := HID.out.past hok hp2 hk2
      have hbx2 := hk2.box HBX.out (by decide) (by omega) (by omega)
      have hE2 := HED.out.on (w' := w2) (hk2.below (by have := HID.out.pp.size; omega) hok.BP hok.BM hBb)
      refine ⟨_, rfl, ?_⟩
      first | simp only [Act.put, List.setIfInBounds_toArray, List.set_cons_succ, List.set_cons_zero] | skip
      refine L.done (by kernel_rfl) ?_
      clear hp2 hk2 HID HED HBX HDO
      cases u with
      | none =>
        have hv := HV2
        have hN := HN2
        go_wp2
        go_roundw
        case rel => exact ⟨j + 1, n', by omega, by go_num, by omega, hv, hN, hI2⟩
        case measure => simp [intOf]; omega
      | some to_ =>
        have hq : to_ = q := by have := HV2.out; injection this with this; injection this
        subst hq
        have hN := HN2.out
        dsimp only at hN
        have hcall := HW.out n' (by omega) (.mk k' a' b' c' d' t' ks') p to_ _ bb base tb r0 f0 (ts ++ []) own _ HEE.out hE2 hRe hPe hp hI2.pp (hI2.bd hok HT.out HBD.out) hI2.tbx (by rw [List.append_nil, hN]; exact hl)
        unfold exCells at hcall
        have x0 := hbx2.cell 0
        have x1 := hbx2.cell 1
        have x2 := hbx2.cell 2
        have x3 := hbx2.cell 3
        have x4 := hbx2.cell 4
        have x5 := hbx2.cell 5
        have x6 := hbx2.cell 6
        have HC := Lib.hid hcall
        have HI2 := Lib.hid hI2
        have HN := Lib.hid hN
        clear hcall hI2 hN hbx2 hE2
        go_wp2_with fail
        refine (HC.out).mono ?_
        rintro e' w3 hw3
        obtain ⟨rfl, own2, hI3⟩ := HI2.out.walked hw3
        rw [HN.out, List.nil_append] at hI3
        have HF : Hid (Q (.returned (.int .i64 to_)) w3) := HQ.out ▸ hI3.done
        clear hw3 hI3 HQ
        go_wp2
        exact HF.out
    · obtain rfl : j = ks.length := by omega
      have hv := HV.out
      rw [List.drop_length] at hv
      cases n' with
      | zero => cases hv
      | succ n' => rw [evJ.eq_def] at hv; cases hv
end Go.Proofs.Ytndhbdbfjkmloaa
namespace Go.Proofs.Ytndhbdbfjkmloaa
open Go.RowKit Go.Maps

/-- what a look at the one kid reads -/
structure TwK2 (c : PC) (bb xb : Nat) (cs : Array Value) (ad : Addr) (k a b d e : Int) (t : ByteArray) (A : Option Addr) (n cp : Nat) (W : World) : Prop where
  bd : BdOk c bb W
  box : Blk W xb 27 cs
  kid : Seven W ad k a b d e t A n cp
/-- again and again: where it stands, with so much fuel -/
structure TRepI (c : PC) (e : Ex) (base tb : Nat) (r0 f0 : Int) (ts : List Tr) (own : Option Nat) (w : World) (TT : List Tr) (q n xb : Nat) (bc : Array Value) (f p' : Nat) (N : List Tr) (own' : Option Nat) (wr : World) : Prop where
  le : f ≤ n
  pos : p' ≤ c.s.data.toList.length
  ev : Hid (evJ c.g c.s.data.toList f (.rep e) p' = some (some q))
  tr : Hid (N ++ trJ c.g c.s.data.toList f (.rep e) p' = TT)
  inv : TwI c base tb r0 f0 ts own w N own' wr
  box : Blk wr xb 27 bc
def TRep (c : PC) (e : Ex) (base tb : Nat) (r0 f0 : Int) (ts : List Tr) (own : Option Nat) (w : World) (TT : List Tr) (q n xb : Nat) (bc : Array Value) (v : Value) (wr : World) (f : Nat) : Prop := ∃ (p' : Nat) (N : List Tr) (own' : Option Nat), v = .int .i64 p' ∧ TRepI c e base tb r0 f0 ts own w TT q n xb bc f p' N own' wr

set_option maxRecDepth 100000 in
set_option maxHeartbeats 8000000 in
theorem twalk_rep {c : PC} (F : c.Fit) {n : Nat} (hW : ∀ m, m ≤ n → DoesWalk c m) {k a b d1 d2 : Int} {t : ByteArray} {e : Ex} {cs : List Value} {p q bb base tb : Nat} {r0 f0 : Int} {ts : List Tr} {own : Option Nat} {w : World} (Wg : WellG c.g) (hk : k = 7 ∨ k = 8) (hE : ExIs w c.B (.mk k a b d1 d2 t [e]) cs) (hR : RtW c.g e) (hn : nodes e ≤ c.lim)
    (hev : evJ c.g c.s.data.toList n (.rep e) p = some (some q)) (hp : p ≤ c.s.data.toList.length) (hpp : PP c w) (hbd : BdOk c bb w) (hT : TBx c w base tb r0 f0 ts own) (hl : ts.length + (trJ c.g c.s.data.toList n (.rep e) p).length ≤ 15000000) :
    Calls Try.prog 36 #[.pointer (some ⟨bb, 0, none⟩), .agg cs.toArray, .int .i64 p, .pointer (some ⟨tb, 3, none⟩)] w (TWalkQ c base tb r0 f0 (ts ++ trJ c.g c.s.data.toList n (.rep e) p) own q w) := by
  have hok := F.ok
  have hBb := hok.Bb
  have hP := hok.P
  have hM := hok.M
  have hsz := hpp.size
  have hL := F.len
  have hlo := hT.lo
  obtain ⟨ht, KA, kcp, rfl, hkc, hkm, _⟩ := hE.shape
  have hkl : ([e] : List Ex).length = 1 := rfl
  rw [hkl] at hE hkc ⊢
  clear hkl
  unfold exCells
  have hKID : Hid (∀ W, Below c.B w W → ∃ (ad : Addr) (k' a' b' c' d' : Int) (t' : ByteArray) (ks' : List Ex) (A' : Option Addr) (cp' : Nat), KA = some ad ∧ e = .mk k' a' b' c' d' t' ks' ∧ ExIs W c.B (.mk k' a' b' c' d' t' ks') (exCells k' a' b' c' d' t' A' ks'.length cp') ∧ Seven W ad k' a' b' c' d' t' A' ks'.length cp') := fun W hW => by
    obtain ⟨ad, k', a', b', c', d', t', ks', A', cp', h1, hab, hej, hE', hS⟩ := (hE.on hW).kid (j := 0) (by simp)
    rw [Nat.zero_mul] at hS
    exact ⟨ad, k', a', b', c', d', t', ks', A', cp', h1, by simpa using hej, hE', hS⟩
  have hI := (TwI.start hpp hT).alloc hok (.cells #[.int .i64 k, .int .u64 a, .int .u64 b, .int .u64 d1, .int .u64 d2, .string t, .slice KA 1 kcp] 27)
  have hbx : Blk (w.alloc (.cells #[.int .i64 k, .int .u64 a, .int .u64 b, .int .u64 d1, .int .u64 d2, .string t, .slice KA 1 kcp] 27)) w.heap.size 27 #[.int .i64 k, .int .u64 a, .int .u64 b, .int .u64 d1, .int .u64 d2, .string t, .slice KA 1 kcp] := blk_at rfl
  generalize hTT : trJ c.g c.s.data.toList n (.rep e) p = TT at hl ⊢
  generalize hQ : TWalkQ c base tb r0 f0 (ts ++ TT) own q w = Q
  have HQ := Lib.hid hQ
  have HW := Lib.hid hW
  have H0 : TRepI c e base tb r0 f0 ts own w TT q n w.heap.size #[.int .i64 k, .int .u64 a, .int .u64 b, .int .u64 d1, .int .u64 d2, .string t, .slice KA 1 kcp] n p [] own (w.alloc (.cells #[.int .i64 k, .int .u64 a, .int .u64 b, .int .u64 d1, .int .u64 d2, .string t, .slice KA 1 kcp] 27)) := ⟨Nat.le_refl _, hp, hev, by show _ = _; rw [List.nil_append]; exact hTT, hI, hbx⟩
  have HR := Lib.hid hR
  have HBD := Lib.hid hbd
  have HT := Lib.hid hT
  have HN := Lib.hid hn
  have HKC := Lib.hid hkc
  clear hQ hE hW hev hR hTT hbd hT hpp hn hI hbx hp
  rcases hk with rfl | rfl
  · go_enter Try.func36, Try.ntmps36
    go_wp2
    go_loopw [2] (fun av wr => ∃ f, TRep c e base tb r0 f0 ts own w TT q n w.heap.size #[.int .i64 7, .int .u64 a, .int .u64 b, .int .u64 d1, .int .u64 d2, .string t, .slice KA 1 kcp] av wr f) (fun av wr => leastN (TRep c e base tb r0 f0 ts own w TT q n w.heap.size #[.int .i64 7, .int .u64 a, .int .u64 b, .int .u64 d1, .int .u64 d2, .string t, .slice KA 1 kcp] av wr))
    case atStart => exact ⟨n, p, [], own, rfl, H0⟩
    case round =>
      clear H0
      obtain ⟨hf, -⟩ := leastN_spec hrel
      clear hrel
      generalize hL1 : leastN _ = f at hf
      obtain ⟨p', N, own', rfl, H⟩ := hf
      have HL := Lib.hid hL1
      clear hL1
      obtain ⟨ad, k', a', b', c', d', t', ks', A', cp', rfl, rfl, hE', hS⟩ := hKID.out wr (H.inv.low hok HT.out)
      have hv := H.ev.out
      have hN := H.tr.out
      cases f with
      | zero => cases hv
      | succ f =>
      rw [evJ.eq_def] at hv
      rw [trJ.eq_def] at hN
      dsimp only at hv hN
      cases he : evJ c.g c.s.data.toList f (.ex (.mk k' a' b' c' d' t' ks')) p' with
      | none => rw [he] at hv; cases hv
      | some u =>
      rw [he] at hv hN
      have hle := H.le
      have hp' := H.pos
      have HI := Lib.hid H.inv
      have HX := Lib.hid H.box
      have HE' := Lib.hid hE'
      have HEE := Lib.hid he
      have HV2 := Lib.hid hv
      have HN2 := Lib.hid hN
      have HS := Lib.hid hS
      have hbz : c.base ≤ wr.heap.size := H.inv.pp.size
      clear H hv hN hE' he hS
      go_upto_region 26 with fail
      refine wp_region_l (TwK2 c bb w.heap.size #[.int .i64 7, .int .u64 a, .int .u64 b, .int .u64 d1, .int .u64 d2, .string t, .slice (some ad) 1 kcp] ad k' a' b' c' d' t' A' ks'.length cp') (fun i => i == 9) (by kernel_rfl) ?_
      have hC : TwK2 c bb w.heap.size #[.int .i64 7, .int .u64 a, .int .u64 b, .int .u64 d1, .int .u64 d2, .string t, .slice (some ad) 1 kcp] ad k' a' b' c' d' t' A' ks'.length cp' wr.drew := ⟨(HI.out.drew hok).bd hok HT.out HBD.out, HX.out.drew, HS.out.keep (w' := wr.drew) fun _ _ => rfl⟩
      have HID := Lib.hid (HI.out.drew hok)
      have HED := Lib.hid (HE'.out.on (w' := wr.drew) (Below.refl _ _).drew)
      generalize wr.drew = wd at hC HID HED ⊢
      have hkc1 := HKC.out
      apply L.rdt (i := 0) rfl (by kernel_rfl) hC rfl
      · intro W hW
        skip
        unfold readW
        go_simp
        first | rfl | exact ⟨rfl, rfl⟩
      first | simp only [Act.put, List.setIfInBounds_toArray, List.set_cons_succ, List.set_cons_zero] | skip
      apply L.rdt (i := 1) rfl (by kernel_rfl) hC rfl
      · intro W hW
        skip
        unfold readW
        go_simp
        first | rfl | exact ⟨rfl, rfl⟩
      first | simp only [Act.put, List.setIfInBounds_toArray, List.set_cons_succ, List.set_cons_zero] | skip
      apply L.rdt (i := 2) rfl (by kernel_rfl) hC rfl
      · intro W hW
        skip
        unfold readW
        go_simp
        first | rfl | exact ⟨rfl, rfl⟩
      first | simp only [Act.put, List.setIfInBounds_toArray, List.set_cons_succ, List.set_cons_zero] | skip
      apply L.rdt (i := 3) rfl (by kernel_rfl) hC rfl
      · intro W hW
        have n0 := hW.bd.c0
        unfold readW
        go_simp
        first | rfl | exact ⟨rfl, rfl⟩
      first | simp only [Act.put, List.setIfInBounds_toArray, List.set_cons_succ, List.set_cons_zero] | skip
      apply L.rdt (i := 4) rfl (by kernel_rfl) hC rfl
      · intro W hW
        skip
        unfold readW
        go_simp
        first | rfl | exact ⟨rfl, rfl⟩
      first | simp only [Act.put, List.setIfInBounds_toArray, List.set_cons_succ, List.set_cons_zero] | skip
      apply L.rdt (i := 5) rfl (by kernel_rfl) hC rfl
      · intro W hW
        have n0 := hW.box.cell 6
        unfold readW
        go_simp
        first | rfl | exact ⟨rfl, rfl⟩
      first | simp only [Act.put, List.setIfInBounds_toArray, List.set_cons_succ, List.set_cons_zero] | skip
      apply L.rdt (i := 6) rfl (by kernel_rfl) hC rfl
      · intro W hW
        skip
        unfold readW
        go_simp
        first | rfl | exact ⟨rfl, rfl⟩
      first | simp only [Act.put, List.setIfInBounds_toArray, List.set_cons_succ, List.set_cons_zero] | skip
      apply L.rdt (i := 7) rfl (by kernel_rfl) hC rfl
      · intro W hW
        obtain ⟨s0, s1, s2, s3, s4, s5, s6⟩ := hW.kid
        unfold readW
        go_simp
        first | rfl | exact ⟨rfl, rfl⟩
      first | simp only [Act.put, List.setIfInBounds_toArray, List.set_cons_succ, List.set_cons_zero] | skip
      apply L.rdt (i := 8) rfl (by kernel_rfl) hC rfl
      · intro W hW
        skip
        unfold readW
        go_simp
        first | rfl | exact ⟨rfl, rfl⟩
      first | simp only [Act.put, List.setIfInBounds_toArray, List.set_cons_succ, List.set_cons_zero] | skip
      have hdo := does_ev F Wg HED.out HR.out HN.out hp' HEE.out HID.out.pp
      unfold exCells at hdo
      have HDO := Lib.hid hdo
      have HBX := Lib.hid hC.box
      clear hdo hC HI HX HE' HS
      apply L.one (i := 9) rfl (by kernel_rfl) rfl
      unfold stepT
      go_simp
      go_at_call 52
      refine (HDO.out).mono ?_
      rintro e w2 ⟨rfl, hp2, hk2⟩
      have hI2 := HID.out.past hok hp2 hk2
      have hbx2 := hk2.box HBX.out (by decide) (by omega) (by omega)
      have hlw := hI2.low hok HT.out
      refine ⟨_, rfl, ?_⟩
      first | simp only [Act.put, List.setIfInBounds_toArray, List.set_cons_succ, List.set_cons_zero] | skip
      refine L.done (by kernel_rfl) ?_
      clear hp2 hk2 HID HED HBX HDO
      cases u with
      | none =>
        have hq : p' = q := by have := HV2.out; injection this with this; injection this
        subst hq
        have hNN : N = TT := by have := HN2.out; simpa using this
        subst hNN
        have HF : Hid (Q (.returned (.int .i64 p')) w2) := HQ.out ▸ hI2.done
        clear hI2 HQ hbx2
        go_wp2
        exact HF.out
      | some to_ =>
        obtain ⟨ad2, k2, a2, b2, c2, d3, t2, ks2, A2, cp2, had, hee, hE2, hS2⟩ := hKID.out w2 hlw
        injection had with had
        subst had
        have hto := ((told (s := c.s.data.toList) (fits_of Wg.right) f).1 _ p' _ HR.out.1 hp' HEE.out).2.1
        have hN := HN2.out
        dsimp only at hN
        have hlen := congrArg List.length hN
        simp only [List.length_append] at hlen
        have hcall := HW.out f (by omega) (.mk k2 a2 b2 c2 d3 t2 ks2) p' to_ _ bb base tb r0 f0 (ts ++ N) own' _ (by rw [← hee]; exact HEE.out) hE2 (by rw [← hee]; exact HR.out) (by rw [← hee]; exact HN.out) hp' hI2.pp (hI2.bd hok HT.out HBD.out) hI2.tbx (by rw [← hee, List.length_append]; omega)
        unfold exCells at hcall
        rw [← hee] at hcall
        have x6 := hbx2.cell 6
        obtain ⟨s0, s1, s2, s3, s4, s5, s6⟩ := hS2
        have HC := Lib.hid hcall
        have HI2 := Lib.hid hI2
        have HBX := Lib.hid hbx2
        have HN3 : Hid ((N ++ trJ c.g c.s.data.toList f (.ex (.mk k' a' b' c' d' t' ks')) p') ++ trJ c.g c.s.data.toList f (.rep (.mk k' a' b' c' d' t' ks')) to_ = TT) := by show _ = _; rw [List.append_assoc]; exact hN
        clear hcall hI2 hN hlen hbx2 hE2 hee hlw
        go_wp2_with fail
        refine (HC.out).mono ?_
        rintro e' w3 hw3
        have htk := hw3.2.2.choose_spec.2.2
        have hbx3 := htk.box HBX.out (by decide) (by omega) (by omega) ((HI2.out.tbx.ne HBX.out (by decide)).1) ((HI2.out.tbx.ne HBX.out (by decide)).2)
        obtain ⟨rfl, own2, hI3⟩ := HI2.out.walked hw3
        have hnext : TRep c (.mk k' a' b' c' d' t' ks') base tb r0 f0 ts own w TT q n w.heap.size #[.int .i64 7, .int .u64 a, .int .u64 b, .int .u64 d1, .int .u64 d2, .string t, .slice (some ad) 1 kcp] (.int .i64 to_) w3 f := ⟨to_, _, own2, rfl, by omega, hto, HV2, HN3, hI3, hbx3⟩
        have x0 := hbx3.cell 0
        clear hw3 htk hI3 hbx3
        go_wp2
        go_roundw
        case rel => exact ⟨f, hnext⟩
        case measure => rw [HL.out]; exact Nat.lt_of_le_of_lt ((leastN_spec ⟨f, hnext⟩).2 f hnext) (Nat.lt_succ_self f)
  · go_enter Try.func36, Try.ntmps36
    go_wp2
    go_loopw [2] (fun av wr => ∃ f, TRep c e base tb r0 f0 ts own w TT q n w.heap.size #[.int .i64 8, .int .u64 a, .int .u64 b, .int .u64 d1, .int .u64 d2, .string t, .slice KA 1 kcp] av wr f) (fun av wr => leastN (TRep c e base tb r0 f0 ts own w TT q n w.heap.size #[.int .i64 8, .int .u64 a, .int .u64 b, .int .u64 d1, .int .u64 d2, .string t, .slice KA 1 kcp] av wr))
    case atStart => exact ⟨n, p, [], own, rfl, H0⟩
    case round =>
      clear H0
      obtain ⟨hf, -⟩ := leastN_spec hrel
      clear hrel
      generalize hL1 : leastN _ = f at hf
      obtain ⟨p', N, own', rfl, H⟩ := hf
      have HL := Lib.hid hL1
      clear hL1
      obtain ⟨ad, k', a', b', c', d', t', ks', A', cp', rfl, rfl, hE', hS⟩ := hKID.out wr (H.inv.low hok HT.out)
      have hv := H.ev.out
      have hN := H.tr.out
      cases f with
      | zero => cases hv
      | succ f =>
      rw [evJ.eq_def] at hv
      rw [trJ.eq_def] at hN
      dsimp only at hv hN
      cases he : evJ c.g c.s.data.toList f (.ex (.mk k' a' b' c' d' t' ks')) p' with
      | none => rw [he] at hv; cases hv
      | some u =>
      rw [he] at hv hN
      have hle := H.le
      have hp' := H.pos
      have HI := Lib.hid H.inv
      have HX := Lib.hid H.box
      have HE' := Lib.hid hE'
      have HEE := Lib.hid he
      have HV2 := Lib.hid hv
      have HN2 := Lib.hid hN
      have HS := Lib.hid hS
      have hbz : c.base ≤ wr.heap.size := H.inv.pp.size
      clear H hv hN hE' he hS
      go_upto_region 26 with fail
      refine wp_region_l (TwK2 c bb w.heap.size #[.int .i64 8, .int .u64 a, .int .u64 b, .int .u64 d1, .int .u64 d2, .string t, .slice (some ad) 1 kcp] ad k' a' b' c' d' t' A' ks'.length cp') (fun i => i == 9) (by kernel_rfl) ?_
      have hC : TwK2 c bb w.heap.size #[.int .i64 8, .int .u64 a, .int .u64 b, .int .u64 d1, .int .u64 d2, .string t, .slice (some ad) 1 kcp] ad k' a' b' c' d' t' A' ks'.length cp' wr.drew := ⟨(HI.out.drew hok).bd hok HT.out HBD.out, HX.out.drew, HS.out.keep (w' := wr.drew) fun _ _ => rfl⟩
      have HID := Lib.hid (HI.out.drew hok)
      have HED := Lib.hid (HE'.out.on (w' := wr.drew) (Below.refl _ _).drew)
      generalize wr.drew = wd at hC HID HED ⊢
      have hkc1 := HKC.out
      apply L.rdt (i := 0) rfl (by kernel_rfl) hC rfl
      · intro W hW
        skip
        unfold readW
        go_simp
        first | rfl | exact ⟨rfl, rfl⟩
      first | simp only [Act.put, List.setIfInBounds_toArray, List.set_cons_succ, List.set_cons_zero] | skip
      apply L.rdt (i := 1) rfl (by kernel_rfl) hC rfl
      · intro W hW
        skip
        unfold readW
        go_simp
        first | rfl | exact ⟨rfl, rfl⟩
      first | simp only [Act.put, List.setIfInBounds_toArray, List.set_cons_succ, List.set_cons_zero] | skip
      apply L.rdt (i := 2) rfl (by kernel_rfl) hC rfl
      · intro W hW
        skip
        unfold readW
        go_simp
        first | rfl | exact ⟨rfl, rfl⟩
      first | simp only [Act.put, List.setIfInBounds_toArray, List.set_cons_succ, List.set_cons_zero] | skip
      apply L.rdt (i := 3) rfl (by kernel_rfl) hC rfl
      · intro W hW
        have n0 := hW.bd.c0
        unfold readW
        go_simp
        first | rfl | exact ⟨rfl, rfl⟩
      first | simp only [Act.put, List.setIfInBounds_toArray, List.set_cons_succ, List.set_cons_zero] | skip
      apply L.rdt (i := 4) rfl (by kernel_rfl) hC rfl
      · intro W hW
        skip
        unfold readW
        go_simp
        first | rfl | exact ⟨rfl, rfl⟩
      first | simp only [Act.put, List.setIfInBounds_toArray, List.set_cons_succ, List.set_cons_zero] | skip
      apply L.rdt (i := 5) rfl (by kernel_rfl) hC rfl
      · intro W hW
        have n0 := hW.box.cell 6
        unfold readW
        go_simp
        first | rfl | exact ⟨rfl, rfl⟩
      first | simp only [Act.put, List.setIfInBounds_toArray, List.set_cons_succ, List.set_cons_zero] | skip
      apply L.rdt (i := 6) rfl (by kernel_rfl) hC rfl
      · intro W hW
        skip
        unfold readW
        go_simp
        first | rfl | exact ⟨rfl, rfl⟩
      first | simp only [Act.put, List.setIfInBounds_toArray, List.set_cons_succ, List.set_cons_zero] | skip
      apply L.rdt (i := 7) rfl (by kernel_rfl) hC rfl
      · intro W hW
        obtain ⟨s0, s1, s2, s3, s4, s5, s6⟩ := hW.kid
        unfold readW
        go_simp
        first | rfl | exact ⟨rfl, rfl⟩
      first | simp only [Act.put, List.setIfInBounds_toArray, List.set_cons_succ, List.set_cons_zero] | skip
      apply L.rdt (i := 8) rfl (by kernel_rfl) hC rfl
      · intro W hW
        skip
        unfold readW
        go_simp
        first | rfl | exact ⟨rfl, rfl⟩
      first | simp only [Act.put, List.setIfInBounds_toArray, List.set_cons_succ, List.set_cons_zero] | skip
      have hdo := does_ev F Wg HED.out HR.out HN.out hp' HEE.out HID.out.pp
      unfold exCells at hdo
      have HDO := Lib.hid hdo
      have HBX := Lib.hid hC.box
      clear hdo hC HI HX HE' HS
      apply L.one (i := 9) rfl (by kernel_rfl) rfl
      unfold stepT
      go_simp
      go_at_call 52
      refine (HDO.out).mono ?_
      rintro e w2 ⟨rfl, hp2, hk2⟩
      have hI2 := HID.out.past hok hp2 hk2
      have hbx2 := hk2.box HBX.out (by decide) (by omega) (by omega)
      have hlw := hI2.low hok HT.out
      refine ⟨_, rfl, ?_⟩
      first | simp only [Act.put, List.setIfInBounds_toArray, List.set_cons_succ, List.set_cons_zero] | skip
      refine L.done (by kernel_rfl) ?_
      clear hp2 hk2 HID HED HBX HDO
      cases u with
      | none =>
        have hq : p' = q := by have := HV2.out; injection this with this; injection this
        subst hq
        have hNN : N = TT := by have := HN2.out; simpa using this
        subst hNN
        have HF : Hid (Q (.returned (.int .i64 p')) w2) := HQ.out ▸ hI2.done
        clear hI2 HQ hbx2
        go_wp2
        exact HF.out
      | some to_ =>
        obtain ⟨ad2, k2, a2, b2, c2, d3, t2, ks2, A2, cp2, had, hee, hE2, hS2⟩ := hKID.out w2 hlw
        injection had with had
        subst had
        have hto := ((told (s := c.s.data.toList) (fits_of Wg.right) f).1 _ p' _ HR.out.1 hp' HEE.out).2.1
        have hN := HN2.out
        dsimp only at hN
        have hlen := congrArg List.length hN
        simp only [List.length_append] at hlen
        have hcall := HW.out f (by omega) (.mk k2 a2 b2 c2 d3 t2 ks2) p' to_ _ bb base tb r0 f0 (ts ++ N) own' _ (by rw [← hee]; exact HEE.out) hE2 (by rw [← hee]; exact HR.out) (by rw [← hee]; exact HN.out) hp' hI2.pp (hI2.bd hok HT.out HBD.out) hI2.tbx (by rw [← hee, List.length_append]; omega)
        unfold exCells at hcall
        rw [← hee] at hcall
        have x6 := hbx2.cell 6
        obtain ⟨s0, s1, s2, s3, s4, s5, s6⟩ := hS2
        have HC := Lib.hid hcall
        have HI2 := Lib.hid hI2
        have HBX := Lib.hid hbx2
        have HN3 : Hid ((N ++ trJ c.g c.s.data.toList f (.ex (.mk k' a' b' c' d' t' ks')) p') ++ trJ c.g c.s.data.toList f (.rep (.mk k' a' b' c' d' t' ks')) to_ = TT) := by show _ = _; rw [List.append_assoc]; exact hN
        clear hcall hI2 hN hlen hbx2 hE2 hee hlw
        go_wp2_with fail
        refine (HC.out).mono ?_
        rintro e' w3 hw3
        have htk := hw3.2.2.choose_spec.2.2
        have hbx3 := htk.box HBX.out (by decide) (by omega) (by omega) ((HI2.out.tbx.ne HBX.out (by decide)).1) ((HI2.out.tbx.ne HBX.out (by decide)).2)
        obtain ⟨rfl, own2, hI3⟩ := HI2.out.walked hw3
        have hnext : TRep c (.mk k' a' b' c' d' t' ks') base tb r0 f0 ts own w TT q n w.heap.size #[.int .i64 8, .int .u64 a, .int .u64 b, .int .u64 d1, .int .u64 d2, .string t, .slice (some ad) 1 kcp] (.int .i64 to_) w3 f := ⟨to_, _, own2, rfl, by omega, hto, HV2, HN3, hI3, hbx3⟩
        have x0 := hbx3.cell 0
        clear hw3 htk hI3 hbx3
        go_wp2
        go_roundw
        case rel => exact ⟨f, hnext⟩
        case measure => rw [HL.out]; exact Nat.lt_of_le_of_lt ((leastN_spec ⟨f, hnext⟩).2 f hnext) (Nat.lt_succ_self f)
set_option maxRecDepth 100000 in
set_option maxHeartbeats 8000000 in
theorem twalk_opt {c : PC} (F : c.Fit) {n : Nat} (hW : DoesWalk c n) {a b d1 d2 : Int} {t : ByteArray} {e : Ex} {cs : List Value} {p bb base tb : Nat} {u : Option Nat} {r0 f0 : Int} {ts : List Tr} {own : Option Nat} {w : World} (Wg : WellG c.g) (hE : ExIs w c.B (.mk 9 a b d1 d2 t [e]) cs) (hR : RtW c.g e) (hn : nodes e ≤ c.lim)
    (hev : evJ c.g c.s.data.toList n (.ex e) p = some u) (hp : p ≤ c.s.data.toList.length) (hpp : PP c w) (hbd : BdOk c bb w) (hT : TBx c w base tb r0 f0 ts own) (hl : ts.length + (if u.isSome then trJ c.g c.s.data.toList n (.ex e) p else []).length ≤ 15000000) :
    Calls Try.prog 36 #[.pointer (some ⟨bb, 0, none⟩), .agg cs.toArray, .int .i64 p, .pointer (some ⟨tb, 3, none⟩)] w (TWalkQ c base tb r0 f0 (ts ++ if u.isSome then trJ c.g c.s.data.toList n (.ex e) p else []) own (u.getD p) w) := by
  have hok := F.ok
  have hBb := hok.Bb
  have hP := hok.P
  have hM := hok.M
  have hsz := hpp.size
  have hL := F.len
  have hlo := hT.lo
  obtain ⟨ht, KA, kcp, rfl, hkc, hkm, _⟩ := hE.shape
  have hkl : ([e] : List Ex).length = 1 := rfl
  rw [hkl] at hE hkc ⊢
  clear hkl
  unfold exCells
  have hKID : Hid (∀ W, Below c.B w W → ∃ (ad : Addr) (k' a' b' c' d' : Int) (t' : ByteArray) (ks' : List Ex) (A' : Option Addr) (cp' : Nat), KA = some ad ∧ e = .mk k' a' b' c' d' t' ks' ∧ ExIs W c.B (.mk k' a' b' c' d' t' ks') (exCells k' a' b' c' d' t' A' ks'.length cp') ∧ Seven W ad k' a' b' c' d' t' A' ks'.length cp') := fun W hW => by
    obtain ⟨ad, k', a', b', c', d', t', ks', A', cp', h1, hab, hej, hE', hS⟩ := (hE.on hW).kid (j := 0) (by simp)
    rw [Nat.zero_mul] at hS
    exact ⟨ad, k', a', b', c', d', t', ks', A', cp', h1, by simpa using hej, hE', hS⟩
  have hI := (TwI.start hpp hT).alloc hok (.cells #[.int .i64 9, .int .u64 a, .int .u64 b, .int .u64 d1, .int .u64 d2, .string t, .slice KA 1 kcp] 27)
  have hbx : Blk (w.alloc (.cells #[.int .i64 9, .int .u64 a, .int .u64 b, .int .u64 d1, .int .u64 d2, .string t, .slice KA 1 kcp] 27)) w.heap.size 27 #[.int .i64 9, .int .u64 a, .int .u64 b, .int .u64 d1, .int .u64 d2, .string t, .slice KA 1 kcp] := blk_at rfl
  generalize hTT : (if u.isSome then trJ c.g c.s.data.toList n (.ex e) p else []) = TT at hl ⊢
  generalize hQ : TWalkQ c base tb r0 f0 (ts ++ TT) own (u.getD p) w = Q
  have HQ := Lib.hid hQ
  have HW := Lib.hid hW
  have HTT := Lib.hid hTT
  have HEV := Lib.hid hev
  have HR := Lib.hid hR
  have HBD := Lib.hid hbd
  have HT := Lib.hid hT
  have HN := Lib.hid hn
  have HKC := Lib.hid hkc
  clear hQ hE hW hev hR hTT hbd hT hpp hn
  go_enter Try.func36, Try.ntmps36
  go_wp2
  go_loopw [2] (fun av wr => av = .int .i64 p ∧ TwI c base tb r0 f0 ts own w [] own wr ∧ Blk wr w.heap.size 27 #[.int .i64 9, .int .u64 a, .int .u64 b, .int .u64 d1, .int .u64 d2, .string t, .slice KA 1 kcp]) (fun _ _ => 0)
  case atStart => exact ⟨rfl, hI, hbx⟩
  case round =>
    clear hI hbx
    obtain ⟨rfl, HII, HBXX⟩ := hrel
    obtain ⟨ad, k', a', b', c', d', t', ks', A', cp', rfl, rfl, hE', hS⟩ := hKID.out wr (HII.low hok HT.out)
    have HI := Lib.hid HII
    have HX := Lib.hid HBXX
    have HE' := Lib.hid hE'
    have HEE := HEV
    have HS := Lib.hid hS
    have hbz : c.base ≤ wr.heap.size := HII.pp.size
    clear HII HBXX hE' hS
    go_upto_region 26 with fail
    refine wp_region_l (TwK2 c bb w.heap.size #[.int .i64 9, .int .u64 a, .int .u64 b, .int .u64 d1, .int .u64 d2, .string t, .slice (some ad) 1 kcp] ad k' a' b' c' d' t' A' ks'.length cp') (fun i => i == 9) (by kernel_rfl) ?_
    have hC : TwK2 c bb w.heap.size #[.int .i64 9, .int .u64 a, .int .u64 b, .int .u64 d1, .int .u64 d2, .string t, .slice (some ad) 1 kcp] ad k' a' b' c' d' t' A' ks'.length cp' wr.drew := ⟨(HI.out.drew hok).bd hok HT.out HBD.out, HX.out.drew, HS.out.keep (w' := wr.drew) fun _ _ => rfl⟩
    have HID := Lib.hid (HI.out.drew hok)
    have HED := Lib.hid (HE'.out.on (w' := wr.drew) (Below.refl _ _).drew)
    generalize wr.drew = wd at hC HID HED ⊢
    have hkc1 := HKC.out
    apply L.rdt (i := 0) rfl (by kernel_rfl) hC rfl
    · intro W hW
      skip
      unfold readW
      go_simp
      first | rfl | exact ⟨rfl, rfl⟩
    first | simp only [Act.put, List.setIfInBounds_toArray, List.set_cons_succ, List.set_cons_zero] | skip
    apply L.rdt (i := 1) rfl (by kernel_rfl) hC rfl
    · intro W hW
      skip
      unfold readW
      go_simp
      first | rfl | exact ⟨rfl, rfl⟩
    first | simp only [Act.put, List.setIfInBounds_toArray, List.set_cons_succ, List.set_cons_zero] | skip
    apply L.rdt (i := 2) rfl (by kernel_rfl) hC rfl
    · intro W hW
      skip
      unfold readW
      go_simp
      first | rfl | exact ⟨rfl, rfl⟩
    first | simp only [Act.put, List.setIfInBounds_toArray, List.set_cons_succ, List.set_cons_zero] | skip
    apply L.rdt (i := 3) rfl (by kernel_rfl) hC rfl
    · intro W hW
      have n0 := hW.bd.c0
      unfold readW
      go_simp
      first | rfl | exact ⟨rfl, rfl⟩
    first | simp only [Act.put, List.setIfInBounds_toArray, List.set_cons_succ, List.set_cons_zero] | skip
    apply L.rdt (i := 4) rfl (by kernel_rfl) hC rfl
    · intro W hW
      skip
      unfold readW
      go_simp
      first | rfl | exact ⟨rfl, rfl⟩
    first | simp only [Act.put, List.setIfInBounds_toArray, List.set_cons_succ, List.set_cons_zero] | skip
    apply L.rdt (i := 5) rfl (by kernel_rfl) hC rfl
    · intro W hW
      have n0 := hW.box.cell 6
      unfold readW
      go_simp
      first | rfl | exact ⟨rfl, rfl⟩
    first | simp only [Act.put, List.setIfInBounds_toArray, List.set_cons_succ, List.set_cons_zero] | skip
    apply L.rdt (i := 6) rfl (by kernel_rfl) hC rfl
    · intro W hW
      skip
      unfold readW
      go_simp
      first | rfl | exact ⟨rfl, rfl⟩
    first | simp only [Act.put, List.setIfInBounds_toArray, List.set_cons_succ, List.set_cons_zero] | skip
    apply L.rdt (i := 7) rfl (by kernel_rfl) hC rfl
    · intro W hW
      obtain ⟨s0, s1, s2, s3, s4, s5, s6⟩ := hW.kid
      unfold readW
      go_simp
      first | rfl | exact ⟨rfl, rfl⟩
    first | simp only [Act.put, List.setIfInBounds_toArray, List.set_cons_succ, List.set_cons_zero] | skip
    apply L.rdt (i := 8) rfl (by kernel_rfl) hC rfl
    · intro W hW
      skip
      unfold readW
      go_simp
      first | rfl | exact ⟨rfl, rfl⟩
    first | simp only [Act.put, List.setIfInBounds_toArray, List.set_cons_succ, List.set_cons_zero] | skip
    have hdo := does_ev F Wg HED.out HR.out HN.out hp HEE.out HID.out.pp
    unfold exCells at hdo
    have HDO := Lib.hid hdo
    have HBX := Lib.hid hC.box
    clear hdo hC HI HX HE' HS
    apply L.one (i := 9) rfl (by kernel_rfl) rfl
    unfold stepT
    go_simp
    go_at_call 52
    refine (HDO.out).mono ?_
    rintro e w2 ⟨rfl, hp2, hk2⟩
    have hI2 := HID.out.past hok hp2 hk2
    have hbx2 := hk2.box HBX.out (by decide) (by omega) (by omega)
    have hlw := hI2.low hok HT.out
    refine ⟨_, rfl, ?_⟩
    first | simp only [Act.put, List.setIfInBounds_toArray, List.set_cons_succ, List.set_cons_zero] | skip
    refine L.done (by kernel_rfl) ?_
    clear hp2 hk2 HID HED HBX HDO
    cases u with
    | none =>
      have hTT := HTT.out
      simp only [Option.isSome_none, Bool.false_eq_true, if_false] at hTT
      subst hTT
      have HF : Hid (Q (.returned (.int .i64 p)) w2) := HQ.out ▸ hI2.done
      clear hI2 HQ hbx2
      go_wp2
      exact HF.out
    | some to_ =>
      obtain ⟨ad2, k2, a2, b2, c2, d3, t2, ks2, A2, cp2, had, hee, hE2, hS2⟩ := hKID.out w2 hlw
      injection had with had
      subst had
      have hTT := HTT.out
      simp only [Option.isSome_some, if_true] at hTT
      have hcall := HW.out (.mk k2 a2 b2 c2 d3 t2 ks2) p to_ _ bb base tb r0 f0 (ts ++ []) own _ (by rw [← hee]; exact HEE.out) hE2 (by rw [← hee]; exact HR.out) (by rw [← hee]; exact HN.out) hp hI2.pp (hI2.bd hok HT.out HBD.out) hI2.tbx (by rw [← hee, List.append_nil, hTT]; exact hl)
      unfold exCells at hcall
      rw [← hee, hTT] at hcall
      have x6 := hbx2.cell 6
      obtain ⟨s0, s1, s2, s3, s4, s5, s6⟩ := hS2
      have HC := Lib.hid hcall
      have HI2 := Lib.hid hI2
      have HBX := Lib.hid hbx2
      clear hcall hI2 hbx2 hE2 hee hlw hTT
      go_wp2_with fail
      refine (HC.out).mono ?_
      rintro e' w3 hw3
      have htk := hw3.2.2.choose_spec.2.2
      have hbx3 := htk.box HBX.out (by decide) (by omega) (by omega) ((HI2.out.tbx.ne HBX.out (by decide)).1) ((HI2.out.tbx.ne HBX.out (by decide)).2)
      obtain ⟨rfl, own2, hI3⟩ := HI2.out.walked hw3
      rw [List.nil_append] at hI3
      have HF : Hid (Q (.returned (.int .i64 to_)) w3) := HQ.out ▸ hI3.done
      have x0 := hbx3.cell 0
      clear hw3 htk hI3 hbx3 HQ
      go_wp2
      exact HF.out

theorem rtW_kids {g : List Rl} {k a b c d : Int} {t : ByteArray} {ks : List Ex} (h : RtW g (.mk k a b c d t ks)) : ∀ e ∈ ks, RtW g e := fun e he => by
  obtain ⟨h1, h2⟩ := h
  cases h1 with
  | mk _ _ _ _ _ _ _ _ _ hk =>
  cases h2 with
  | mk _ _ _ _ _ _ _ _ _ _ _ _ hw => exact ⟨hk e he, hw e he⟩

theorem twalks {c : PC} (F : c.Fit) (Wg : WellG c.g) (h60 : c.s.data.toList.length ≤ 60) : ∀ n, DoesWalk c n := by
  intro n
  induction n using Nat.strongRecOn with
  | _ n ih =>
    intro e p q cs bb base tb r f ts own w hev hE hR hn hp hpp hbd hT hl
    cases n with
    | zero => cases hev
    | succ n =>
    obtain ⟨k, a, b, d1, d2, t, ks⟩ := e
    have hRk := rtW_kids hR
    have hto := (told (s := c.s.data.toList) (fits_of Wg.right) (n + 1)).1 _ p _ hR.1 hp hev
    have hql := hto.2.1
    obtain ⟨hrt, hwf⟩ := hR
    cases hrt with
    | mk _ _ _ _ _ _ _ hfit hname hkids =>
    have hfc := fit_cases hfit
    have hle : ∀ m, m ≤ n → DoesWalk c m := fun m hm => ih m (by omega)
    have hE2 := hE
    obtain ⟨hts, KA, kcp, rfl, hkc, hkm, _⟩ := hE.shape
    rw [evJ.eq_def] at hev
    rw [trJ.eq_def] at hl ⊢
    dsimp only at hev hl ⊢
    rw [nodes] at hn
    by_cases h1 : k = 1
    · rw [if_pos h1] at hev
      rw [if_pos (.inl h1), List.append_nil]
      injection hev with hev
      injection hev with hev
      exact twalk_none F.ok (.inl h1) hev.symm hpp hT
    rw [if_neg h1] at hev
    by_cases h2 : k = 2
    · subst h2
      rw [if_pos rfl] at hev
      rw [if_pos (.inr (.inl rfl)), List.append_nil]
      injection hev with hev
      split at hev
      · injection hev with hev
        subst hev
        exact twalk_set F.ok (by omega) hpp hT
      · cases hev
    rw [if_neg h2] at hev
    by_cases h3 : k = 3
    · subst h3
      rw [if_pos rfl] at hev
      rw [if_pos (.inr (.inr rfl)), List.append_nil]
      injection hev with hev
      split at hev
      · injection hev with hev
        subst hev
        exact twalk_lit F.ok (by omega) (by omega) hpp hT
      · cases hev
    rw [if_neg h3] at hev
    rw [if_neg (by rintro (h | h | h) <;> contradiction)] at hl ⊢
    by_cases h4 : k = 4
    · subst h4
      rw [if_pos rfl] at hev hl ⊢
      obtain ⟨rr, hr, _⟩ := fnd_at (hname rfl)
      rw [hr] at hev hl ⊢
      dsimp only at hev hl ⊢
      rw [hev] at hl ⊢
      dsimp only at hl ⊢
      exact twalk_ref F (trule_any F Wg h60 (hle n (Nat.le_refl _))) (Int.toNat_of_nonneg (hname rfl)).symm hr hev hp hpp hbd hT (by simpa using hl)
    rw [if_neg h4] at hev hl ⊢
    by_cases h5 : k = 5
    · subst h5
      rw [if_pos rfl] at hev hl ⊢
      exact twalk_seq F hle Wg hE2 hRk (by omega) hev hp hpp hbd hT hl
    rw [if_neg h5] at hev hl ⊢
    by_cases h6 : k = 6
    · subst h6
      rw [if_pos rfl] at hev hl ⊢
      exact twalk_alt F hle Wg hE2 hRk (by omega) hev hp hpp hbd hT hl
    rw [if_neg h6] at hev hl ⊢
    match ks, show ks.length = 1 by omega, hE2, hRk with
    | [e], _, hE2, hRk =>
    dsimp only at hev hl ⊢
    have hRe := hRk e (by simp)
    have hne : nodes e ≤ c.lim := by rw [nodesAll] at hn; omega
    cases n with
    | zero => cases hev
    | succ n =>
    rw [evJ.eq_def] at hev
    rw [trJ.eq_def] at hl ⊢
    dsimp only at hev hl ⊢
    by_cases h7 : k = 7
    · rw [if_pos h7] at hev hl ⊢
      exact twalk_rep F (fun m hm => ih m (by omega)) Wg (.inl h7) hE2 hRe hne hev hp hpp hbd hT hl
    rw [if_neg h7] at hev hl ⊢
    cases he : evJ c.g c.s.data.toList n (.ex e) p with
    | none => rw [he] at hev; cases hev
    | some u =>
      rw [he] at hev hl
      by_cases h8 : k = 8
      · cases u with
        | none => dsimp only at hev; rw [if_pos (.inl h8)] at hev; cases hev
        | some to_ =>
          dsimp only at hev hl ⊢
          rw [if_pos h8] at hev hl ⊢
          have h1 : evJ c.g c.s.data.toList (n + 1) (.rep e) p = some (some q) := by rw [evJ.eq_def]; dsimp only; rw [he]; exact hev
          have h2 : trJ c.g c.s.data.toList (n + 1) (.rep e) p = trJ c.g c.s.data.toList n (.ex e) p ++ trJ c.g c.s.data.toList n (.rep e) to_ := by rw [trJ.eq_def]; dsimp only; rw [he]
          rw [← h2] at hl ⊢
          exact twalk_rep F (fun m hm => ih m (by omega)) Wg (.inr h8) hE2 hRe hne h1 hp hpp hbd hT hl
      by_cases h9 : k = 9
      · subst h9
        have hh := twalk_opt F (ih n (by omega)) (u := u) Wg hE2 hRe hne he hp hpp hbd hT
        cases u with
        | none =>
          dsimp only at hev hl ⊢
          rw [if_neg (by decide)] at hev
          injection hev with hev
          injection hev with hev
          subst hev
          exact hh hl
        | some to_ =>
          dsimp only at hev hl ⊢
          rw [if_neg (by decide), if_pos rfl] at hev hl ⊢
          injection hev with hev
          injection hev with hev
          subst hev
          exact hh hl
      · cases u with
        | none =>
          dsimp only at hev hl ⊢
          rw [if_neg h8, if_neg h9, List.append_nil]
          injection hev with hev
          split at hev
          · cases hev
          · injection hev with hev
            exact twalk_none F.ok (by omega) hev.symm hpp hT
        | some to_ =>
          dsimp only at hev hl ⊢
          rw [if_neg h8] at hev ⊢
          rw [if_neg h9] at hev ⊢
          rw [List.append_nil]
          by_cases h10 : k = 10
          · rw [if_pos h10] at hev
            injection hev with hev
            injection hev with hev
            exact twalk_none F.ok (.inr (.inl h10)) hev.symm hpp hT
          · rw [if_neg h10] at hev; cases hev
end Go.Proofs.Ytndhbdbfjkmloaa
