/- How many bits a word has: plain. -/
import Derived.Test.YtndhbdbfjkmloaaDoorRows
namespace Go.Proofs.YtndhbdbfjkmloaaDoor

/-- the bits among the lowest k -/
def pcN : Nat → Nat → Nat
  | 0, _ => 0
  | k + 1, x => x % 2 + pcN k (x / 2)
theorem pcN_le : ∀ k x, pcN k x ≤ k
  | 0, _ => Nat.le_refl _
  | k + 1, x => by
    have := pcN_le k (x / 2)
    rw [pcN]
    omega
theorem and_split (n a b : Nat) : a &&& b = (a % 2 ^ n &&& b % 2 ^ n) + 2 ^ n * (a / 2 ^ n &&& b / 2 ^ n) := by
  have h := Nat.mod_add_div (a &&& b) (2 ^ n)
  rw [Nat.and_mod_two_pow, Nat.and_div_two_pow] at h
  exact h.symm
theorem or_split (n a b : Nat) : a ||| b = (a % 2 ^ n ||| b % 2 ^ n) + 2 ^ n * (a / 2 ^ n ||| b / 2 ^ n) := by
  have h := Nat.mod_add_div (a ||| b) (2 ^ n)
  rw [Nat.or_mod_two_pow, Nat.or_div_two_pow] at h
  exact h.symm
theorem pcN_two : ∀ (k a b : Nat), pcN k (a ||| b) + pcN k (a &&& b) = pcN k a + pcN k b
  | 0, _, _ => rfl
  | k + 1, a, b => by
    have ih := pcN_two k (a / 2) (b / 2)
    have h1 := or_split 1 a b
    have h2 := and_split 1 a b
    simp only [Nat.pow_one] at h1 h2
    have ha : a % 2 = 0 ∨ a % 2 = 1 := by omega
    have hb : b % 2 = 0 ∨ b % 2 = 1 := by omega
    simp only [pcN]
    rcases ha with ha | ha <;> rcases hb with hb | hb <;> (rw [ha, hb] at h1 h2; simp at h1 h2; rw [show (a ||| b) / 2 = a / 2 ||| b / 2 from by omega, show (a &&& b) / 2 = a / 2 &&& b / 2 from by omega]; omega)

def rep : Nat → Nat → Nat
  | 0, _ => 0
  | n + 1, c => c + 256 * rep n c
theorem and_rep (n c x : Nat) (hc : c < 256) : x &&& rep (n + 1) c = (x % 256 &&& c) + 256 * (x / 256 &&& rep n c) := by
  have h := and_split 8 x (rep (n + 1) c)
  rw [show (2 : Nat) ^ 8 = 256 from rfl] at h
  rw [show rep (n + 1) c % 256 = c from by rw [rep]; omega, show rep (n + 1) c / 256 = rep n c from by rw [rep]; omega] at h
  exact h

def fA (b : Nat) : Nat := (b / 2 &&& 85) + (b &&& 85)
def fB (b : Nat) : Nat := (b / 4 &&& 51) + (b &&& 51)
def stA (n x : Nat) : Nat := (x / 2 &&& rep n 85) + (x &&& rep n 85)
def stB (n x : Nat) : Nat := (x / 4 &&& rep n 51) + (x &&& rep n 51)
def stC (n x : Nat) : Nat := (x / 16 + x) &&& rep n 15
theorem fA_half : ∀ r : Fin 512, (r.val / 2) % 256 &&& 85 = (r.val % 256) / 2 &&& 85 := by decide +kernel
theorem fB_half : ∀ r : Fin 1024, (r.val / 4) % 256 &&& 51 = (r.val % 256) / 4 &&& 51 := by decide +kernel
theorem fA_lt : ∀ r : Fin 256, fA r.val < 256 := by decide +kernel
theorem fB_lt : ∀ r : Fin 256, fB (fA r.val) < 69 ∧ fB (fA r.val) % 16 ≤ 4 := by decide +kernel
theorem fC_is : ∀ r : Fin 256, (fB (fA r.val) / 16 + fB (fA r.val)) % 16 = pcN 8 r.val := by decide +kernel
theorem stA_succ (n x : Nat) : stA (n + 1) x = fA (x % 256) + 256 * stA n (x / 256) := by
  unfold stA fA
  rw [and_rep _ _ _ (by omega), and_rep _ _ _ (by omega)]
  have h := fA_half ⟨x % 512, by omega⟩
  simp only at h
  rw [show x % 512 / 2 % 256 = x / 2 % 256 from by omega, show x % 512 % 256 = x % 256 from by omega] at h
  rw [h, show x / 2 / 256 = x / 256 / 2 from by omega]
  omega
theorem stB_succ (n x b q : Nat) (hx : x = b + 256 * q) (hb : b < 256) : stB (n + 1) x = fB b + 256 * stB n q := by
  unfold stB fB
  rw [and_rep _ _ _ (by omega), and_rep _ _ _ (by omega)]
  have h := fB_half ⟨x % 1024, by omega⟩
  simp only at h
  rw [show x % 1024 / 4 % 256 = x / 4 % 256 from by omega, show x % 1024 % 256 = b from by omega] at h
  rw [h, show x / 4 / 256 = q / 4 from by omega, show x % 256 = b from by omega, show x / 256 = q from by omega]
  omega
theorem stAB_succ (n x : Nat) : stB (n + 1) (stA (n + 1) x) = fB (fA (x % 256)) + 256 * stB n (stA n (x / 256)) :=
  stB_succ n _ _ _ (stA_succ n x) (fA_lt ⟨x % 256, by omega⟩)
theorem stAB_low (n x : Nat) : stB n (stA n x) % 16 ≤ 4 := by
  cases n with
  | zero => simp [stB, rep]
  | succ n =>
    rw [stAB_succ]
    have := (fB_lt ⟨x % 256, by omega⟩).2
    simp only at this
    omega
def tot (n x : Nat) : Nat := stC n (stB n (stA n x))
theorem tot_succ (n x : Nat) : tot (n + 1) x = pcN 8 (x % 256) + 256 * tot n (x / 256) := by
  unfold tot
  rw [stAB_succ]
  have h1 := fB_lt ⟨x % 256, by omega⟩
  have h2 := fC_is ⟨x % 256, by omega⟩
  have h3 := stAB_low n (x / 256)
  simp only at h1 h2
  generalize fB (fA (x % 256)) = g at h1 h2 ⊢
  generalize stB n (stA n (x / 256)) = z at h3 ⊢
  unfold stC
  rw [and_rep _ _ _ (by omega)]
  have e1 : ((g + 256 * z) / 16 + (g + 256 * z)) % 256 &&& 15 = pcN 8 (x % 256) := by
    rw [show (15 : Nat) = 2 ^ 4 - 1 from rfl, Nat.and_two_pow_sub_one_eq_mod, ← h2]
    omega
  rw [e1, show ((g + 256 * z) / 16 + (g + 256 * z)) / 256 = z / 16 + z from by omega]
theorem tot_zero (x : Nat) : tot 0 x = 0 := by simp [tot, stC, rep]
theorem pcN_add : ∀ (j k x : Nat), pcN (j + k) x = pcN j x + pcN k (x / 2 ^ j)
  | 0, k, x => by simp [pcN]
  | j + 1, k, x => by
    rw [show j + 1 + k = (j + k) + 1 from by omega, pcN, pcN, pcN_add j k (x / 2), Nat.div_div_eq_div_mul, Nat.pow_succ, Nat.mul_comm 2]
    omega
theorem pcN_mod : ∀ (k x m : Nat), k ≤ m → pcN k (x % 2 ^ m) = pcN k x
  | 0, _, _, _ => rfl
  | k + 1, x, m + 1, h => by
    rw [pcN, pcN]
    have h1 : x % 2 ^ (m + 1) % 2 = x % 2 := by rw [Nat.pow_succ, Nat.mul_comm]; exact Nat.mod_mul_right_mod x 2 _
    have h2 : x % 2 ^ (m + 1) / 2 = x / 2 % 2 ^ m := by rw [Nat.pow_succ, Nat.mul_comm, Nat.mod_mul_right_div_self]
    rw [h1, h2, pcN_mod k (x / 2) m (by omega)]

def ones (x : Nat) : Nat :=
  let z := stC 8 (stB 8 (stA 8 x))
  let z4 := z + z / 256
  let z5 := z4 + z4 / 65536
  (z5 + z5 / 4294967296) % 128
theorem pc8 (x : Nat) : pcN 8 (x % 256) = pcN 8 x := pcN_mod 8 x 8 (Nat.le_refl _)
theorem tot_eight (x : Nat) : tot 8 x = pcN 8 x + 256 * (pcN 8 (x / 256) + 256 * (pcN 8 (x / 65536) + 256 * (pcN 8 (x / 16777216) + 256 * (pcN 8 (x / 4294967296) + 256 * (pcN 8 (x / 1099511627776) + 256 * (pcN 8 (x / 281474976710656) + 256 * (pcN 8 (x / 72057594037927936) + 256 * 0))))))) := by
  simp only [tot_succ, tot_zero, pc8, Nat.div_div_eq_div_mul, Nat.reduceMul]
theorem pc_eight (x : Nat) : pcN 64 x = pcN 8 x + (pcN 8 (x / 256) + (pcN 8 (x / 65536) + (pcN 8 (x / 16777216) + (pcN 8 (x / 4294967296) + (pcN 8 (x / 1099511627776) + (pcN 8 (x / 281474976710656) + pcN 8 (x / 72057594037927936))))))) := by
  rw [show (64 : Nat) = 8 + (8 + (8 + (8 + (8 + (8 + (8 + 8)))))) from rfl]
  simp only [pcN_add, Nat.div_div_eq_div_mul, Nat.reducePow, Nat.reduceMul]
theorem low_sum (c0 c1 c2 c3 c4 c5 c6 c7 z z4 z5 : Nat) (b0 : c0 ≤ 8) (b1 : c1 ≤ 8) (b2 : c2 ≤ 8) (b3 : c3 ≤ 8) (b4 : c4 ≤ 8) (b5 : c5 ≤ 8) (b6 : c6 ≤ 8) (b7 : c7 ≤ 8)
    (hz : z = c0 + 256 * (c1 + 256 * (c2 + 256 * (c3 + 256 * (c4 + 256 * (c5 + 256 * (c6 + 256 * (c7 + 256 * 0)))))))) (h4 : z4 = z + z / 256) (h5 : z5 = z4 + z4 / 65536) :
    (z5 + z5 / 4294967296) % 128 = c0 + (c1 + (c2 + (c3 + (c4 + (c5 + (c6 + c7)))))) := by
  have d1 : z / 256 = c1 + 256 * (c2 + 256 * (c3 + 256 * (c4 + 256 * (c5 + 256 * (c6 + 256 * c7))))) := by omega
  have e4 : z4 = (c0 + c1) + 256 * ((c1 + c2) + 256 * ((c2 + c3) + 256 * ((c3 + c4) + 256 * ((c4 + c5) + 256 * ((c5 + c6) + 256 * ((c6 + c7) + 256 * c7)))))) := by omega
  clear h4 d1 hz
  have d2 : z4 / 65536 = (c2 + c3) + 256 * ((c3 + c4) + 256 * ((c4 + c5) + 256 * ((c5 + c6) + 256 * ((c6 + c7) + 256 * c7)))) := by omega
  have e5 : z5 = (c0 + c1 + c2 + c3) + 256 * ((c1 + c2 + c3 + c4) + 256 * ((c2 + c3 + c4 + c5) + 256 * ((c3 + c4 + c5 + c6) + 256 * ((c4 + c5 + c6 + c7) + 256 * ((c5 + c6 + c7) + 256 * ((c6 + c7) + 256 * c7)))))) := by omega
  clear h5 d2 e4
  have d3 : z5 / 4294967296 = (c4 + c5 + c6 + c7) + 256 * ((c5 + c6 + c7) + 256 * ((c6 + c7) + 256 * c7)) := by omega
  omega
theorem ones_is (x : Nat) : ones x = pcN 64 x := by
  rw [pc_eight]
  exact low_sum _ _ _ _ _ _ _ _ (tot 8 x) (tot 8 x + tot 8 x / 256) (tot 8 x + tot 8 x / 256 + (tot 8 x + tot 8 x / 256) / 65536) (pcN_le _ _) (pcN_le _ _) (pcN_le _ _) (pcN_le _ _) (pcN_le _ _) (pcN_le _ _) (pcN_le _ _) (pcN_le _ _) (tot_eight x) rfl rfl
end Go.Proofs.YtndhbdbfjkmloaaDoor
