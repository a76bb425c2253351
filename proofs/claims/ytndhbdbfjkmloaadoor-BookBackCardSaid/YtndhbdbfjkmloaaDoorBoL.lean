/- The walks of the laws BookBack and BookAgain. -/
import Derived.Test.YtndhbdbfjkmloaaDoorBoZ
namespace Go.Proofs.YtndhbdbfjkmloaaDoor
open Go.RowKit

def exC : List Cs := [(4, 1, ⟨#[97, 98]⟩)]
theorem exC_text : bookL exC = [112, 114, 101, 102, 105, 120, 32, 49, 32, 39, 97, 98, 39, 10] := by
  have h1 : Lib.itoa 1 = [49] := by
    unfold Lib.itoa
    rw [if_neg (by decide), dd_small (by decide)]
    rfl
  have h2 : litL [97, 98] = [39, 97, 98, 39] := by decide +kernel
  show ((headC 4 1 ++ litL [97, 98]) ++ [10]) ++ [] = _
  unfold headC
  rw [if_neg (by decide), if_neg (by decide), h1, h2]
  rfl
theorem exC_print : BPrV exC = .tuple #[.string ⟨#[112, 114, 101, 102, 105, 120, 32, 49, 32, 39, 97, 98, 39, 10]⟩, .int .i64 0] := by
  unfold BPrV
  rw [if_pos (by decide +kernel), exC_text]
set_option maxRecDepth 100000 in
set_option maxHeartbeats 4000000 in
theorem walk_BookBack {l : List Cs} {A : Option Addr} {n c : Nat} {w : World} (h : Reads w w.heap.size 3 A n (caseC l)) (hl : l.length = n) (hT : LibP w) :
    Calls Tryd.prog 9 #[.slice A n c] w fun e w' => e = .returned (.bool true) ∧ Below w.heap.size w w' := by
  have HEX : Hid (∀ (W : World) (b : Nat), Below w.heap.size w W → Blk W b 49 #[.int .i64 4, .int .i64 1, .string ⟨#[97, 98]⟩] → Calls Tryd.prog 20 #[.slice (some ⟨b, 0, none⟩) 1 1] W fun e w' => e = .returned (.tuple #[.string ⟨#[112, 114, 101, 102, 105, 120, 32, 49, 32, 39, 97, 98, 39, 10]⟩, .int .i64 0]) ∧ Below W.heap.size W w') := fun W b hW hb => by
    have hr : Reads W W.heap.size 3 (some ⟨b, 0, none⟩) 1 (caseC exC) := ⟨rfl, fun _ => ⟨_, rfl, hb.lt, fun j u hu => by rw [add_offB, hb.cell, ← hu, show caseC exC = [.int .i64 4, .int .i64 1, .string ⟨#[97, 98]⟩] from rfl]; simp⟩⟩
    have := bprint_any (c := 1) hr rfl (hT.on hW)
    rwa [exC_print] at this
  have HPR := Lib.hid (fun (W : World) (hW : Below w.heap.size w W) => bprint_any (c := c) ((h.below hW).more hW.size) hl (hT.on hW))
  have HCK := Lib.hid (fun (W : World) (hW : Below w.heap.size w W) => bcheck_any (c := c) ((h.below hW).more hW.size) hl)
  have HRD := Lib.hid (fun (s : ByteArray) (W : World) (hW : Below w.heap.size w W) => bread_any s W (hT.on hW))
  have HEQ := Lib.hid (fun (W : World) (hW : Below w.heap.size w W) (hn : n ≤ 1000) (A' : Option Addr) (c' : Nat) (h' : Reads W W.heap.size 3 A' n (caseC l)) => equalC_any A A' n c n c' l l w.heap.size W.heap.size W (h.below hW) h' hn hl hl)
  unfold BPrV at HPR
  clear hT h
  by_cases h0 : bchkC l = 0
  · have hb := book_back h0
    have hn40 : n ≤ 40 := by
      unfold bchkC at h0
      split at h0
      · cases h0
      · omega
    rw [if_pos h0] at HPR
    have HBK : Hid ((2000 < (⟨(bookL l).toArray⟩ : ByteArray).size ∧ breadR (⟨(bookL l).toArray⟩ : ByteArray).data.toList = ([], 0, 2)) ∨ ((⟨(bookL l).toArray⟩ : ByteArray).size ≤ 2000 ∧ breadR (⟨(bookL l).toArray⟩ : ByteArray).data.toList = (l, 0, 0))) := by
      show _ ∨ _
      rw [sz_arrB, data_arrB]
      exact hb
    generalize (⟨(bookL l).toArray⟩ : ByteArray) = S at HPR HBK
    have HL := Lib.hid hl
    clear hb h0 HCK hl
    go_enter Tryd.func9, Tryd.ntmps9
    go_wp2_with fail
    refine (HEX.out _ _ ((Below.refl _ _).alloc (Nat.le_refl _) _) (blk_at rfl)).mono ?_
    rintro e w1 ⟨rfl, hb1⟩
    have hw1 : Below w.heap.size w w1 := ((Below.refl _ _).alloc (Nat.le_refl _) _).trans (hb1.mono (by simp))
    clear hb1 HEX
    go_wp2_with fail
    refine (HPR.out _ hw1).mono ?_
    rintro e w2 ⟨rfl, hb2⟩
    have hw2 := hw1.trans (hb2.mono hw1.size)
    clear hb2 hw1 HPR
    have hrd := HRD.out S _ hw2
    rcases HBK.out with ⟨hlt, hbr⟩ | ⟨hle, hbr⟩
    · rw [hbr] at hrd
      have HRX := Lib.hid hrd
      have hgt : (2000 : Int) < (S.size : Int) := by omega
      clear hrd hbr HBK hlt
      go_wp2_with fail
      refine HRX.out.mono ?_
      rintro e w3 ⟨hb3, V, cv, rfl, -⟩
      have hw3 := hw2.trans (hb3.mono hw2.size)
      go_wp2
      go_ret
      exact ⟨rfl, hw3⟩
    · rw [hbr] at hrd
      have HRX := Lib.hid hrd
      have hgt : ¬ (2000 : Int) < (S.size : Int) := by omega
      clear hrd hbr HBK hle
      go_wp2_with fail
      refine HRX.out.mono ?_
      rintro e w3 ⟨hb3, V, cv, rfl, hR⟩
      have hw3 := hw2.trans (hb3.mono hw2.size)
      simp only at hR
      rw [HL.out] at hR
      have heq := HEQ.out w3 hw3 (by omega) V cv hR
      simp only [decide_true] at heq
      have HE := Lib.hid heq
      have HLN := HL.out
      simp only [HLN]
      clear heq hR hb3 HEQ HRD HRX HL
      clear HLN
      go_wp2_with fail
      refine HE.out.mono ?_
      rintro e w4 ⟨rfl, d, rfl⟩
      go_wp2
      go_ret
      exact ⟨rfl, below_drewN hw3 _⟩
  · rw [if_neg h0] at HPR
    have hne : (bchkC l != 0) = true := bne_iff_ne.2 h0
    generalize bchkC l = x at hne HPR HCK
    clear h0 HEQ HRD hl
    go_enter Tryd.func9, Tryd.ntmps9
    go_wp2_with fail
    refine (HEX.out _ _ ((Below.refl _ _).alloc (Nat.le_refl _) _) (blk_at rfl)).mono ?_
    rintro e w1 ⟨rfl, hb1⟩
    have hw1 : Below w.heap.size w w1 := ((Below.refl _ _).alloc (Nat.le_refl _) _).trans (hb1.mono (by simp))
    clear hb1 HEX
    go_wp2_with fail
    refine (HPR.out _ hw1).mono ?_
    rintro e w2 ⟨rfl, hb2⟩
    have hw2 := hw1.trans (hb2.mono hw1.size)
    clear hb2 hw1 HPR
    go_wp2_with fail
    refine (HCK.out _ hw2).mono ?_
    rintro e w3 ⟨rfl, hb3⟩
    have hw3 := hw2.trans (hb3.mono hw2.size)
    go_wp2
    go_ret
    exact ⟨ret_bool (by simp), hw3⟩

theorem exA_read : breadR (⟨#[35, 32, 120, 10, 10, 97, 99, 99, 101, 112, 116, 32, 34, 97, 34, 10, 114, 101, 106, 101, 99, 116]⟩ : ByteArray).data.toList = ([], 4, 4) := by decide +kernel
set_option maxRecDepth 100000 in
set_option maxHeartbeats 4000000 in
theorem walk_BookAgain (s : ByteArray) (w : World) (hT : LibP w) : Calls Tryd.prog 10 #[.string s] w fun e w' => e = .returned (.bool true) ∧ Below w.heap.size w w' := by
  have hex := bread_any ⟨#[35, 32, 120, 10, 10, 97, 99, 99, 101, 112, 116, 32, 34, 97, 34, 10, 114, 101, 106, 101, 99, 116]⟩ w hT
  rw [exA_read] at hex
  have HEX := Lib.hid hex
  have HRD := Lib.hid (fun (s : ByteArray) (W : World) (hW : Below w.heap.size w W) => bread_any s W (hT.on hW))
  have HPR := Lib.hid (fun (W W' : World) (hW : Below w.heap.size w W) (hW' : Below W.heap.size W W') (l : List Cs) (V : Option Addr) (c : Nat) (h : Reads W W.heap.size 3 V l.length (caseC l)) => bprint_any (c := c) ((h.below hW').more hW'.size) rfl (hT.on (hW.trans (hW'.mono hW.size))))
  have hok := bread_ok s.data.toList
  have hrs := fun W hW => HRD.out s W hW
  generalize breadR s.data.toList = R at hok hrs
  obtain ⟨l, p, x⟩ := R
  simp only at hok
  have HRS := Lib.hid hrs
  unfold BPrV at HPR
  clear hex hrs hT
  rcases hok with ⟨rfl, rfl, hck⟩ | ⟨hx, hp, rfl⟩
  · have hbk := book_back hck
    have hn40 : l.length ≤ 40 := by
      unfold bchkC at hck
      split at hck
      · cases hck
      · omega
    have HPL := Lib.hid (fun (W : World) (hW : Below w.heap.size w W) (V : Option Addr) (c : Nat) (h : Reads W W.heap.size 3 V l.length (caseC l)) => by have := HPR.out W W hW (Below.refl _ _) l V c h; rwa [if_pos hck] at this)
    have HBK : Hid ((2000 < (⟨(bookL l).toArray⟩ : ByteArray).size ∧ breadR (⟨(bookL l).toArray⟩ : ByteArray).data.toList = ([], 0, 2)) ∨ ((⟨(bookL l).toArray⟩ : ByteArray).size ≤ 2000 ∧ breadR (⟨(bookL l).toArray⟩ : ByteArray).data.toList = (l, 0, 0))) := by
      show _ ∨ _
      rw [sz_arrB, data_arrB]
      exact hbk
    generalize (⟨(bookL l).toArray⟩ : ByteArray) = S at HPL HBK
    obtain ⟨n, hn⟩ : ∃ n, l.length = n := ⟨_, rfl⟩
    rw [hn] at hn40
    have HN := Lib.hid hn
    clear hbk HPR hck hn
    go_enter Tryd.func10, Tryd.ntmps10
    go_wp2_with fail
    refine HEX.out.mono ?_
    rintro e w1 ⟨hb1, V1, c1, rfl, -⟩
    simp only [List.length_nil]
    clear HEX
    go_wp2_with fail
    refine (HRS.out _ hb1).mono ?_
    rintro e w2 ⟨hb2, V2, c2, rfl, hR2⟩
    have hw2 := hb1.trans (hb2.mono hb1.size)
    simp only at hR2
    have hpl := HPL.out w2 hw2 V2 c2 hR2
    rw [HN.out] at hR2 hpl
    have HR2 := Lib.hid hR2
    have HP := Lib.hid hpl
    simp only [HN.out]
    clear hb2 hR2 hpl HRS HPL hb1
    go_wp2_with fail
    refine HP.out.mono ?_
    rintro e w3 ⟨rfl, hb3⟩
    have hw3 := hw2.trans (hb3.mono hw2.size)
    have HR3 := Lib.hid ((HR2.out.below hb3).more hb3.size)
    have hrd := HRD.out S _ hw3
    clear hb3 HP HR2
    rcases HBK.out with ⟨hlt, hbr⟩ | ⟨hle, hbr⟩
    · rw [hbr] at hrd
      have HRX := Lib.hid hrd
      have hgt : (2000 : Int) < (S.size : Int) := by omega
      clear hrd hbr HBK hlt
      go_wp2_with fail
      refine HRX.out.mono ?_
      rintro e w4 ⟨hb4, V4, c4, rfl, -⟩
      have hw4 := hw3.trans (hb4.mono hw3.size)
      go_wp2
      go_ret
      exact ⟨rfl, hw4⟩
    · rw [hbr] at hrd
      have HRX := Lib.hid hrd
      have hgt : ¬ (2000 : Int) < (S.size : Int) := by omega
      clear hrd hbr HBK hle
      go_wp2_with fail
      refine HRX.out.mono ?_
      rintro e w4 ⟨hb4, V4, c4, rfl, hR4⟩
      have hw4 := hw3.trans (hb4.mono hw3.size)
      simp only at hR4
      have heq := equalC_any V2 V4 n c2 l.length c4 l l w3.heap.size w4.heap.size w4 (HR3.out.below hb4) hR4 (by omega) HN.out rfl
      simp only [decide_true] at heq
      rw [HN.out] at heq
      have HE := Lib.hid heq
      simp only [HN.out]
      clear heq hR4 hb4 HRX HRD HR3 HN
      go_wp2_with fail
      refine HE.out.mono ?_
      rintro e w5 ⟨rfl, d, rfl⟩
      go_wp2
      go_ret
      exact ⟨rfl, below_drewN hw4 _⟩
  · have hxb : (x != 0) = true := bne_iff_ne.2 hx
    clear hx HPR
    go_enter Tryd.func10, Tryd.ntmps10
    go_wp2_with fail
    refine HEX.out.mono ?_
    rintro e w1 ⟨hb1, V1, c1, rfl, -⟩
    simp only [List.length_nil]
    clear HEX
    go_wp2_with fail
    refine (HRS.out _ hb1).mono ?_
    rintro e w2 ⟨hb2, V2, c2, rfl, -⟩
    have hw2 := hb1.trans (hb2.mono hb1.size)
    simp only [List.length_nil]
    go_wp2
    go_ret
    exact ⟨rfl, hw2⟩
end Go.Proofs.YtndhbdbfjkmloaaDoor
