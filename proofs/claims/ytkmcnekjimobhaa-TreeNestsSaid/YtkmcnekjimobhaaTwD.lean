/- (*builder).walk at sequences, alternatives, and what is there again and again. -/
import Derived.Test.YtkmcnekjimobhaaTwC
namespace Go.Proofs.Ytkmcnekjimobhaa
open Go.RowKit Go.Maps

/-- where a walk stands: so many trees more -/
structure TwI (c : PC) (base tb : Nat) (r0 f0 : Int) (ts : List Tr) (own : Option Nat) (w : World) (N : List Tr) (own' : Option Nat) (wr : World) : Prop where
  pp : PP c wr
  tbx : TBx c wr base tb r0 f0 (ts ++ N) own'
  mv : Moved w own own'
  tk : Tk c tb own w wr
section
variable {c : PC} {base tb bb : Nat} {r0 f0 : Int} {ts N N' : List Tr} {own own' : Option Nat} {w wr wr' : World}
theorem TwI.start (hpp : PP c w) (hT : TBx c w base tb r0 f0 ts own) : TwI c base tb r0 f0 ts own w [] own w := ⟨hpp, by rw [List.append_nil]; exact hT, Moved.refl _ _, Tk.refl _ _ _ _⟩
theorem TwI.past (h : TwI c base tb r0 f0 ts own w N own' wr) (hok : c.Ok) (hpp : PP c wr') (hk : Keeps c wr wr') : TwI c base tb r0 f0 ts own w N own' wr' := ⟨hpp, h.tbx.keeps hok hk, h.mv, h.tk.trans (Tk.of_keeps (own := own') hk) h.mv⟩
theorem TwI.below (h : TwI c base tb r0 f0 ts own w N own' wr) (hok : c.Ok) (hb : Below wr.heap.size wr wr') : TwI c base tb r0 f0 ts own w N own' wr' := h.past hok (h.pp.below hok hb) (Keeps.of_below hb)
theorem TwI.alloc (h : TwI c base tb r0 f0 ts own w N own' wr) (hok : c.Ok) (o : Obj) : TwI c base tb r0 f0 ts own w N own' (wr.alloc o) := h.below hok ((Below.refl _ _).alloc (Nat.le_refl _) o)
theorem TwI.drew (h : TwI c base tb r0 f0 ts own w N own' wr) (hok : c.Ok) : TwI c base tb r0 f0 ts own w N own' wr.drew := h.below hok (Below.refl _ _).drew
theorem TwI.bd (h : TwI c base tb r0 f0 ts own w N own' wr) (hok : c.Ok) (hT : TBx c w base tb r0 f0 ts own) (hb : BdOk c bb w) : BdOk c bb wr := hb.tk hok hT h.tk
theorem TwI.low (h : TwI c base tb r0 f0 ts own w N own' wr) (hok : c.Ok) (hT : TBx c w base tb r0 f0 ts own) : Below c.B w wr := by
  have := hok.Bb
  have := hok.BP
  have := hok.BM
  have := hT.lo
  exact h.tk.below (by omega) (by omega) (by omega) (by omega) (by omega) fun k hk => by have := hT.own_lt k hk; omega
theorem TwI.walked {q : Nat} {e : Ending} (h : TwI c base tb r0 f0 ts own w N own' wr) (hw : TWalkQ c base tb r0 f0 (ts ++ N ++ N') own' q wr e wr') : e = .returned (.int .i64 q) ∧ ∃ own2, TwI c base tb r0 f0 ts own w (N ++ N') own2 wr' := by
  obtain ⟨h1, h2, own2, h3, h4, h5⟩ := hw
  exact ⟨h1, own2, h2, by rw [← List.append_assoc]; exact h3, h.mv.trans h4 h.tk.size, h.tk.trans h5 h.mv⟩
theorem TwI.done {q : Nat} (h : TwI c base tb r0 f0 ts own w N own' wr) : TWalkQ c base tb r0 f0 (ts ++ N) own q w (.returned (.int .i64 q)) wr := ⟨rfl, h.pp, own', h.tbx, h.mv, h.tk⟩
end

set_option maxRecDepth 100000 in
set_option maxHeartbeats 8000000 in
theorem twalk_seq {c : PC} (F : c.Fit) {n : Nat} (hW : ∀ m, m ≤ n → DoesWalk c m) {a b d1 d2 : Int} {t : ByteArray} {ks : List Ex} {cs : List Value} {p q bb base tb : Nat} {r0 f0 : Int} {ts : List Tr} {own : Option Nat} {w : World} (Wg : WellG c.g) (hE : ExIs w c.B (.mk 5 a b d1 d2 t ks) cs) (hR : ∀ e ∈ ks, RtW c.g e) (hn : nodesAll ks ≤ c.lim)
    (hev : evJ c.g c.s.data.toList n (.seq ks) p = some (some q)) (hp : p ≤ c.s.data.toList.length) (hpp : PP c w) (hbd : BdOk c bb w) (hT : TBx c w base tb r0 f0 ts own) (hl : ts.length + (trJ c.g c.s.data.toList n (.seq ks) p).length ≤ 15000000) :
    Calls Try.prog 81 #[.pointer (some ⟨bb, 0, none⟩), .agg cs.toArray, .int .i64 p, .pointer (some ⟨tb, 3, none⟩)] w (TWalkQ c base tb r0 f0 (ts ++ trJ c.g c.s.data.toList n (.seq ks) p) own q w) := by
  have hok := F.ok
  have hBb := hok.Bb
  have hsz := hpp.size
  have hL := F.len
  obtain ⟨ht, KA, kcp, rfl, hkc, hkm, _⟩ := hE.shape
  have hm8 : ks.length ≤ 9223372036854775807 := by unfold maxLen at hkm; omega
  unfold exCells
  have hI := (TwI.start hpp hT).alloc hok (.cells #[.int .i64 5, .int .u64 a, .int .u64 b, .int .u64 d1, .int .u64 d2, .string t, .slice KA ks.length kcp] 37)
  generalize hTT : trJ c.g c.s.data.toList n (.seq ks) p = TT at hl ⊢
  generalize hQ : TWalkQ c base tb r0 f0 (ts ++ TT) own q w = Q
  have HQ := Lib.hid hQ
  have HE := Lib.hid hE
  have HW := Lib.hid hW
  have HEV := Lib.hid hev
  have HRR := Lib.hid hR
  have HTT : Hid ([] ++ trJ c.g c.s.data.toList n (.seq ks) p = TT) := by show _ = _; rw [List.nil_append]; exact hTT
  have HBD := Lib.hid hbd
  have HT := Lib.hid hT
  have HPL : Hid (∀ e ∈ ks, nodes e ≤ c.lim) := fun e he => Nat.le_trans (nodesAll_mem he) hn
  clear hQ hE hW hev hR hTT hbd hT hpp hn
  go_enter Try.func81, Try.ntmps81
  go_wp2
  go_loopw [2, 58] (fun av i wr => ∃ (j p' n' : Nat) (N : List Tr) (own' : Option Nat), j ≤ ks.length ∧ i = .int .i64 j ∧ av = .int .i64 p' ∧ n' ≤ n ∧ p' ≤ c.s.data.toList.length ∧ Hid (evJ c.g c.s.data.toList n' (.seq (ks.drop j)) p' = some (some q)) ∧ Hid (N ++ trJ c.g c.s.data.toList n' (.seq (ks.drop j)) p' = TT) ∧ TwI c base tb r0 f0 ts own w N own' wr) (fun _ i _ => ks.length - (intOf i).toNat)
  case atStart => exact ⟨0, p, n, [], own, by omega, rfl, rfl, Nat.le_refl _, hp, HEV, HTT, hI⟩
  case round =>
    clear hI hp
    obtain ⟨j, p', n', N, own', hj, rfl, rfl, hn', hp', HV, HN, hI⟩ := hrel
    by_cases hjk : j < ks.length
    · obtain ⟨ad, k', a', b', c', d', t', ks', A', cp', rfl, hab, hej, hE', ⟨e0, e1, e2, e3, e4, e5, e6⟩⟩ := (HE.out.on (hI.low hok HT.out)).kid hjk
      have hv := HV.out
      have hN := HN.out
      rw [drop_of hej] at hv hN
      cases n' with
      | zero => cases hv
      | succ n' =>
      rw [evJ.eq_def] at hv
      rw [trJ.eq_def] at hN
      dsimp only at hv hN
      cases he : evJ c.g c.s.data.toList n' (.ex (.mk k' a' b' c' d' t' ks')) p' with
      | none => rw [he] at hv; cases hv
      | some u =>
      cases u with
      | none => rw [he] at hv; cases hv
      | some to_ =>
      rw [he] at hv hN
      dsimp only at hv hN
      have hmem := List.mem_of_getElem? hej
      have hto := ((told (s := c.s.data.toList) (fits_of Wg.right) n').1 _ p' _ (HRR.out _ hmem).1 hp' he).2.1
      have hIa := hI.alloc hok (.cells #[.int .i64 k', .int .u64 a', .int .u64 b', .int .u64 c', .int .u64 d', .string t', .slice A' ks'.length cp'] 37)
      have hlen := congrArg List.length hN
      simp only [List.length_append] at hlen
      have hcall := HW.out n' (by omega) (.mk k' a' b' c' d' t' ks') p' to_ _ bb base tb r0 f0 (ts ++ N) own' _ he (hE'.on (((Below.refl _ _).alloc (by have := hI.pp.size; omega) _ : Below c.B wr (wr.alloc (.cells #[.int .i64 k', .int .u64 a', .int .u64 b', .int .u64 c', .int .u64 d', .string t', .slice A' ks'.length cp'] 37))))) (HRR.out _ hmem) (HPL.out _ hmem) hp' hIa.pp (hIa.bd hok HT.out HBD.out) hIa.tbx (by rw [List.length_append]; omega)
      have HC := Lib.hid hcall
      have HIA := Lib.hid hIa
      have HV2 := Lib.hid hv
      have HN2 : Hid ((N ++ trJ c.g c.s.data.toList n' (.ex (.mk k' a' b' c' d' t' ks')) p') ++ trJ c.g c.s.data.toList n' (.seq (ks.drop (j + 1))) to_ = TT) := by show _ = _; rw [List.append_assoc]; exact hN
      clear hcall hIa hv hN hlen HV HN hE' hej hmem he hI
      go_wp2_with fail
      refine (HC.out).mono ?_
      rintro e' w2 hw2
      obtain ⟨rfl, own2, hI2⟩ := HIA.out.walked hw2
      clear hw2
      go_wp2
      go_roundw
      case rel => exact ⟨j + 1, to_, n', _, own2, by omega, by go_num, rfl, by omega, hto, HV2, HN2, hI2⟩
      case measure => simp [intOf]; omega
    · obtain rfl : j = ks.length := by omega
      have hv := HV.out
      have hN := HN.out
      rw [List.drop_length] at hv hN
      have hpq : p' = q := by
        cases n' with
        | zero => cases hv
        | succ n' => rw [evJ.eq_def] at hv; dsimp only at hv; injection hv with hv; injection hv
      have hNT : N = TT := by
        cases n' with
        | zero => cases hv
        | succ n' => rw [trJ.eq_def] at hN; simpa using hN
      subst hpq hNT
      have HF : Hid (Q (.returned (.int .i64 p')) wr) := HQ.out ▸ hI.done
      clear hv hN HQ hI
      go_wp2
      exact HF.out

/-- what a look at a kid reads -/
structure TwK (c : PC) (bb xb : Nat) (cs : Array Value) (W : World) : Prop where
  bd : BdOk c bb W
  box : Blk W xb 37 cs

set_option maxRecDepth 100000 in
set_option maxHeartbeats 8000000 in
theorem twalk_alt {c : PC} (F : c.Fit) {n : Nat} (hW : ∀ m, m ≤ n → DoesWalk c m) {a b d1 d2 : Int} {t : ByteArray} {ks : List Ex} {cs : List Value} {p q bb base tb : Nat} {r0 f0 : Int} {ts : List Tr} {own : Option Nat} {w : World} (Wg : WellG c.g) (hE : ExIs w c.B (.mk 6 a b d1 d2 t ks) cs) (hR : ∀ e ∈ ks, RtW c.g e) (hn : nodesAll ks ≤ c.lim)
    (hev : evJ c.g c.s.data.toList n (.alt ks) p = some (some q)) (hp : p ≤ c.s.data.toList.length) (hpp : PP c w) (hbd : BdOk c bb w) (hT : TBx c w base tb r0 f0 ts own) (hl : ts.length + (trJ c.g c.s.data.toList n (.alt ks) p).length ≤ 15000000) :
    Calls Try.prog 81 #[.pointer (some ⟨bb, 0, none⟩), .agg cs.toArray, .int .i64 p, .pointer (some ⟨tb, 3, none⟩)] w (TWalkQ c base tb r0 f0 (ts ++ trJ c.g c.s.data.toList n (.alt ks) p) own q w) := by
  have hok := F.ok
  have hBb := hok.Bb
  have hP := hok.P
  have hM := hok.M
  have hsz := hpp.size
  have hL := F.len
  have hlo := hT.lo
  obtain ⟨ht, KA, kcp, rfl, hkc, hkm, _⟩ := hE.shape
  have hm8 : ks.length ≤ 9223372036854775807 := by unfold maxLen at hkm; omega
  unfold exCells
  have hI := (TwI.start hpp hT).alloc hok (.cells #[.int .i64 6, .int .u64 a, .int .u64 b, .int .u64 d1, .int .u64 d2, .string t, .slice KA ks.length kcp] 37)
  generalize hTT : trJ c.g c.s.data.toList n (.alt ks) p = TT at hl ⊢
  generalize hQ : TWalkQ c base tb r0 f0 (ts ++ TT) own q w = Q
  have HQ := Lib.hid hQ
  have HE := Lib.hid hE
  have HW := Lib.hid hW
  have HEV := Lib.hid hev
  have HRR := Lib.hid hR
  have HTT := Lib.hid hTT
  have HBD := Lib.hid hbd
  have HT := Lib.hid hT
  have HPL : Hid (∀ e ∈ ks, nodes e ≤ c.lim) := fun e he => Nat.le_trans (nodesAll_mem he) hn
  clear hQ hE hW hev hR hTT hbd hT hpp hn
  go_enter Try.func81, Try.ntmps81
  go_wp2
  go_loopw [73] (fun i wr => ∃ (j n' : Nat), j ≤ ks.length ∧ i = .int .i64 j ∧ n' ≤ n ∧ Hid (evJ c.g c.s.data.toList n' (.alt (ks.drop j)) p = some (some q)) ∧ Hid (trJ c.g c.s.data.toList n' (.alt (ks.drop j)) p = TT) ∧ TwI c base tb r0 f0 ts own w [] own wr) (fun i _ => ks.length - (intOf i).toNat)
  case atStart => exact ⟨0, n, by omega, rfl, Nat.le_refl _, HEV, HTT, hI⟩
  case round =>
    clear hI
    obtain ⟨j, n', hj, rfl, hn', HV, HN, hI⟩ := hrel
    by_cases hjk : j < ks.length
    · obtain ⟨ad, k', a', b', c', d', t', ks', A', cp', rfl, hab, hej, hE', ⟨e0, e1, e2, e3, e4, e5, e6⟩⟩ := (HE.out.on (hI.low hok HT.out)).kid hjk
      have hv := HV.out
      have hN := HN.out
      rw [drop_of hej] at hv hN
      cases n' with
      | zero => cases hv
      | succ n' =>
      rw [evJ.eq_def] at hv
      rw [trJ.eq_def] at hN
      dsimp only at hv hN
      cases he : evJ c.g c.s.data.toList n' (.ex (.mk k' a' b' c' d' t' ks')) p with
      | none => rw [he] at hv; cases hv
      | some u =>
      rw [he] at hv hN
      have hmem := List.mem_of_getElem? hej
      have hIa := hI.alloc hok (.cells #[.int .i64 k', .int .u64 a', .int .u64 b', .int .u64 c', .int .u64 d', .string t', .slice A' ks'.length cp'] 37)
      have hbx : Blk (wr.alloc (.cells #[.int .i64 k', .int .u64 a', .int .u64 b', .int .u64 c', .int .u64 d', .string t', .slice A' ks'.length cp'] 37)) wr.heap.size 37 #[.int .i64 k', .int .u64 a', .int .u64 b', .int .u64 c', .int .u64 d', .string t', .slice A' ks'.length cp'] := blk_at rfl
      have hE2 : ExIs (wr.alloc (.cells #[.int .i64 k', .int .u64 a', .int .u64 b', .int .u64 c', .int .u64 d', .string t', .slice A' ks'.length cp'] 37)) c.B (.mk k' a' b' c' d' t' ks') (exCells k' a' b' c' d' t' A' ks'.length cp') := hE'.on ((Below.refl _ _).alloc (by have := hI.pp.size; omega) _)
      have hRe := HRR.out _ hmem
      have hPe := HPL.out _ hmem
      have hkbz : c.base ≤ wr.heap.size := hI.pp.size
      have HIA := Lib.hid hIa
      have HBX := Lib.hid hbx
      have HE2 := Lib.hid hE2
      have HEE := Lib.hid he
      have HV2 := Lib.hid hv
      have HN2 := Lib.hid hN
      clear hIa hbx hE2 hv hN HV HN hE' hej hmem hI he
      go_upto_region 20 with fail
      generalize (wr.alloc (.cells #[.int .i64 k', .int .u64 a', .int .u64 b', .int .u64 c', .int .u64 d', .string t', .slice A' ks'.length cp'] 37)) = w1 at HIA HBX HE2 ⊢
      generalize wr.heap.size = xb at HBX hkbz ⊢
      clear e0 e1 e2 e3 e4 e5 e6
      refine wp_region_l (TwK c bb xb #[.int .i64 k', .int .u64 a', .int .u64 b', .int .u64 c', .int .u64 d', .string t', .slice A' ks'.length cp']) (fun i => i == 6) (by kernel_rfl) ?_
      have hC : TwK c bb xb #[.int .i64 k', .int .u64 a', .int .u64 b', .int .u64 c', .int .u64 d', .string t', .slice A' ks'.length cp'] w1.drew := ⟨(HIA.out.drew hok).bd hok HT.out HBD.out, HBX.out.drew⟩
      have HID := Lib.hid (HIA.out.drew hok)
      have HED := Lib.hid (HE2.out.on (w' := w1.drew) (Below.refl _ _).drew)
      generalize w1.drew = wd at hC HID HED ⊢
      clear HIA HBX HE2
      apply L.rdt (i := 0) rfl (by kernel_rfl) hC rfl
      · intro W hW
        skip
        unfold readW
        go_simp
        first | rfl | exact ⟨rfl, rfl⟩
      first | simp only [Act.put, List.setIfInBounds_toArray, List.set_cons_succ, List.set_cons_zero] | skip
      apply L.rdt (i := 1) rfl (by kernel_rfl) hC rfl
      · intro W hW
        skip
        unfold readW
        go_simp
        first | rfl | exact ⟨rfl, rfl⟩
      first | simp only [Act.put, List.setIfInBounds_toArray, List.set_cons_succ, List.set_cons_zero] | skip
      apply L.rdt (i := 2) rfl (by kernel_rfl) hC rfl
      · intro W hW
        skip
        unfold readW
        go_simp
        first | rfl | exact ⟨rfl, rfl⟩
      first | simp only [Act.put, List.setIfInBounds_toArray, List.set_cons_succ, List.set_cons_zero] | skip
      apply L.rdt (i := 3) rfl (by kernel_rfl) hC rfl
      · intro W hW
        have n0 := hW.bd.c0
        unfold readW
        go_simp
        first | rfl | exact ⟨rfl, rfl⟩
      first | simp only [Act.put, List.setIfInBounds_toArray, List.set_cons_succ, List.set_cons_zero] | skip
      apply L.rdt (i := 4) rfl (by kernel_rfl) hC rfl
      · intro W hW
        have n0 := hW.box.cell 0; have n1 := hW.box.cell 1; have n2 := hW.box.cell 2; have n3 := hW.box.cell 3; have n4 := hW.box.cell 4; have n5 := hW.box.cell 5; have n6 := hW.box.cell 6
        unfold readW
        go_simp
        first | rfl | exact ⟨rfl, rfl⟩
      first | simp only [Act.put, List.setIfInBounds_toArray, List.set_cons_succ, List.set_cons_zero] | skip
      apply L.rdt (i := 5) rfl (by kernel_rfl) hC rfl
      · intro W hW
        skip
        unfold readW
        go_simp
        first | rfl | exact ⟨rfl, rfl⟩
      first | simp only [Act.put, List.setIfInBounds_toArray, List.set_cons_succ, List.set_cons_zero] | skip
      have hdo := does_ev F Wg HED.out hRe hPe hp HEE.out HID.out.pp
      unfold exCells at hdo
      have HDO := Lib.hid hdo
      have HBX := Lib.hid hC.box
      clear hdo hC
      apply L.one (i := 6) rfl (by kernel_rfl) rfl
      unfold stepT
      go_simp
      go_at_call 112
      refine (HDO.out).mono ?_
      rintro e w2 ⟨rfl, hp2, hk2⟩
      have hI2 := HID.out.past hok hp2 hk2
      have hbx2 := hk2.box HBX.out (by decide) (by omega) (by omega)
      have hE2 := HED.out.on (w' := w2) (hk2.below (by have := HID.out.pp.size; omega) hok.BP hok.BM hBb)
      refine ⟨_, rfl, ?_⟩
      first | simp only [Act.put, List.setIfInBounds_toArray, List.set_cons_succ, List.set_cons_zero] | skip
      refine L.done (by kernel_rfl) ?_
      clear hp2 hk2 HID HED HBX HDO
      cases u with
      | none =>
        have hv := HV2
        have hN := HN2
        go_wp2
        go_roundw
        case rel => exact ⟨j + 1, n', by omega, by go_num, by omega, hv, hN, hI2⟩
        case measure => simp [intOf]; omega
      | some to_ =>
        have hq : to_ = q := by have := HV2.out; injection this with this; injection this
        subst hq
        have hN := HN2.out
        dsimp only at hN
        have hcall := HW.out n' (by omega) (.mk k' a' b' c' d' t' ks') p to_ _ bb base tb r0 f0 (ts ++ []) own _ HEE.out hE2 hRe hPe hp hI2.pp (hI2.bd hok HT.out HBD.out) hI2.tbx (by rw [List.append_nil, hN]; exact hl)
        unfold exCells at hcall
        have x0 := hbx2.cell 0
        have x1 := hbx2.cell 1
        have x2 := hbx2.cell 2
        have x3 := hbx2.cell 3
        have x4 := hbx2.cell 4
        have x5 := hbx2.cell 5
        have x6 := hbx2.cell 6
        have HC := Lib.hid hcall
        have HI2 := Lib.hid hI2
        have HN := Lib.hid hN
        clear hcall hI2 hN hbx2 hE2
        go_wp2_with fail
        refine (HC.out).mono ?_
        rintro e' w3 hw3
        obtain ⟨rfl, own2, hI3⟩ := HI2.out.walked hw3
        rw [HN.out, List.nil_append] at hI3
        have HF : Hid (Q (.returned (.int .i64 to_)) w3) := HQ.out ▸ hI3.done
        clear hw3 hI3 HQ
        go_wp2
        exact HF.out
    · obtain rfl : j = ks.length := by omega
      have hv := HV.out
      rw [List.drop_length] at hv
      cases n' with
      | zero => cases hv
      | succ n' => rw [evJ.eq_def] at hv; cases hv
end Go.Proofs.Ytkmcnekjimobhaa
