/- The Hamming code in plain arithmetic. -/
import Derived.Test.YtonphmkilikapaaFieldN
namespace Go.Proofs.Ytonphmkilikapaa

def hbit (w k : Nat) : Nat := w / 2 ^ k % 2
def parB (at' : Nat) : Bool := decide (at' &&& (at' - 1) = 0)
/-- The exclusive or of the places of ones, of the first k places. -/
def hsumN : Nat → Nat → Nat
  | 0, _ => 0
  | k + 1, w => if hbit w k = 1 then hsumN k w ^^^ (k + 1) else hsumN k w
def hsum (w : Nat) : Nat := hsumN 15 w
theorem hsumN_lt (k w : Nat) (hk : k ≤ 15) : hsumN k w < 16 := by
  induction k with
  | zero => simp [hsumN]
  | succ k ih =>
    simp only [hsumN]
    split
    · exact Nat.xor_lt_two_pow (n := 4) (ih (by omega)) (by omega)
    · exact ih (by omega)
theorem hbit_xor (x y k : Nat) : hbit (x ^^^ y) k = (hbit x k ^^^ hbit y k) := bit_xor x y k
theorem hbit_01 (x k : Nat) : hbit x k = 0 ∨ hbit x k = 1 := Nat.mod_two_eq_zero_or_one _
theorem hsumN_xor (k x y : Nat) : hsumN k (x ^^^ y) = hsumN k x ^^^ hsumN k y := by
  induction k with
  | zero => simp [hsumN]
  | succ k ih =>
    simp only [hsumN, hbit_xor]
    rw [ih]
    generalize hsumN k x = A
    generalize hsumN k y = B
    rcases hbit_01 x k with h | h <;> rcases hbit_01 y k with h' | h' <;> simp [h, h']
    · rw [Nat.xor_assoc]
    · rw [Nat.xor_assoc, Nat.xor_assoc, Nat.xor_comm (k + 1)]
    · rw [xor4, Nat.xor_self, Nat.xor_zero]
theorem hsum_one : ∀ j : Fin 15, hsum (2 ^ j.val) = j.val + 1 := by decide +kernel
/-- The state of Put's first loop: the word and what is left of the data. -/
def putN : Nat → Nat → Nat × Nat
  | 0, d => (0, d)
  | k + 1, d => if parB (k + 1) = true then putN k d else ((putN k d).1 ||| ((putN k d).2 % 2) * 2 ^ k, (putN k d).2 / 2)
def put2 : Nat → Nat → Nat → Nat
  | 0, _, w => w
  | j + 1, s, w => if s &&& 2 ^ j ≠ 0 then put2 j s w ||| 2 ^ (2 ^ j - 1) else put2 j s w
def hput (d : Nat) : Nat := put2 4 (hsum (putN 15 d).1) (putN 15 d).1
/-- The state of Get's loop: the data and how many there are. -/
def getN : Nat → Nat → Nat × Nat
  | 0, _ => (0, 0)
  | k + 1, w => if parB (k + 1) = true then getN k w else ((getN k w).1 ||| hbit w k * 2 ^ (getN k w).2, (getN k w).2 + 1)
def hdata (w : Nat) : Nat := (getN 15 w).1
def places : List Nat := [3, 5, 6, 7, 9, 10, 11, 12, 13, 14, 15]
/-- The reference's data, of the first k places. -/
def dataN : Nat → Nat → Nat
  | 0, _ => 0
  | k + 1, w => dataN k w ||| hbit w (places.getD k 0 - 1) * 2 ^ k
theorem hdata_eq (w : Nat) : dataN 11 w = hdata w := by
  have p : ∀ k, k < 15 → parB (k + 1) = decide (k = 0 ∨ k = 1 ∨ k = 3 ∨ k = 7) := by
    have H : ∀ k : Fin 15, parB (k.val + 1) = decide (k.val = 0 ∨ k.val = 1 ∨ k.val = 3 ∨ k.val = 7) := by decide +kernel
    exact fun k hk => H ⟨k, hk⟩
  simp [hdata, getN, p, dataN, places]
theorem hput_all : ∀ d : Fin 2048, (hput d.val < 32768 ∧ hsum (hput d.val) = 0) ∧ hdata (hput d.val) = d.val := by decide +kernel
theorem hput_ok {d : Nat} (h : d < 2048) : hput d < 32768 ∧ hsum (hput d) = 0 ∧ hdata (hput d) = d :=
  ⟨(hput_all ⟨d, h⟩).1.1, (hput_all ⟨d, h⟩).1.2, (hput_all ⟨d, h⟩).2⟩
/-- A word with one place turned. -/
def turn (w k : Nat) : Nat := if k = 0 then w else w ^^^ 2 ^ (k - 1)
theorem hsum_turn (w k : Nat) (hk : k ≤ 15) : hsum (turn w k) = hsum w ^^^ k := by
  unfold turn
  split
  · subst k; simp
  · unfold hsum
    rw [hsumN_xor]
    have := hsum_one ⟨k - 1, by omega⟩
    unfold hsum at this
    rw [this]; congr 1; simp only; omega
theorem turn_lt (w k : Nat) (hw : w < 32768) (hk : k ≤ 15) : turn w k < 32768 := by
  unfold turn
  split
  · exact hw
  · have h2 : 2 ^ (k - 1) ≤ 2 ^ 14 := Nat.pow_le_pow_right (by omega) (by omega)
    exact Nat.xor_lt_two_pow (n := 15) hw (by omega)
theorem xor_eq_zero' (a b : Nat) : a ^^^ b = 0 ↔ a = b := by
  constructor
  · intro h
    have : (a ^^^ b) ^^^ b = 0 ^^^ b := by rw [h]
    rwa [Nat.xor_assoc, Nat.xor_self, Nat.xor_zero, Nat.zero_xor] at this
  · intro h; rw [h, Nat.xor_self]
theorem putN_lt (k d : Nat) (hk : k ≤ 15) : (putN k d).1 < 32768 ∧ (putN k d).2 ≤ d := by
  induction k with
  | zero => simp [putN]
  | succ k ih =>
    have ih := ih (by omega)
    simp only [putN]
    split
    · exact ih
    · refine ⟨Nat.or_lt_two_pow (n := 15) ih.1 ?_, Nat.le_trans (Nat.div_le_self _ _) ih.2⟩
      have h1 : 2 ^ k ≤ 2 ^ 14 := Nat.pow_le_pow_right (by omega) (by omega)
      have h2 := Nat.mul_le_mul (show (putN k d).2 % 2 ≤ 1 by omega) h1
      omega
theorem put2_lt (j s w : Nat) (hj : j ≤ 4) (hw : w < 32768) : put2 j s w < 32768 := by
  induction j with
  | zero => exact hw
  | succ j ih =>
    simp only [put2]
    split
    · refine Nat.or_lt_two_pow (n := 15) (ih (by omega)) ?_
      have : j = 0 ∨ j = 1 ∨ j = 2 ∨ j = 3 := by omega
      rcases this with h | h | h | h <;> subst h <;> simp
    · exact ih (by omega)
theorem getN_lt (k w : Nat) (hk : k ≤ 15) : (getN k w).2 ≤ k ∧ (getN k w).1 < 2 ^ (getN k w).2 := by
  induction k with
  | zero => simp [getN]
  | succ k ih =>
    have ih := ih (by omega)
    simp only [getN]
    split
    · exact ⟨by omega, ih.2⟩
    · refine ⟨by simp only; omega, ?_⟩
      simp only
      refine Nat.or_lt_two_pow (Nat.lt_of_lt_of_le ih.2 (Nat.pow_le_pow_right (by omega) (by omega))) ?_
      rw [Nat.pow_succ]
      have h1 : 0 < 2 ^ (getN k w).2 := Nat.pow_pos (by omega)
      have h2 := Nat.mul_le_mul_right (2 ^ (getN k w).2) (show hbit w k ≤ 1 by have := hbit_01 w k; omega)
      omega
end Go.Proofs.Ytonphmkilikapaa
