/- The reference's field: Times, Power, Undo. -/
import Derived.Test.YtmeffbooabionaaRows
import Derived.Test.YtmeffbooabionaaField
set_option linter.unusedVariables false
set_option linter.unusedSimpArgs false
namespace Go.Proofs.Ytmeffbooabionaa
open Go.RowKit

theorem mod_next (b k : Nat) : b % 2 ^ k ^^^ (b / 2 ^ k % 2) * 2 ^ k = b % 2 ^ (k + 1) := by
  apply Nat.eq_of_testBit_eq
  intro j
  rw [Nat.testBit_xor, Nat.testBit_mod_two_pow, Nat.testBit_mod_two_pow]
  have hb : b.testBit k = decide (b / 2 ^ k % 2 = 1) := Nat.testBit_eq_decide_div_mod_eq
  rcases Nat.mod_two_eq_zero_or_one (b / 2 ^ k) with h | h
  · rw [h] at hb ⊢
    simp only [Nat.zero_mul, Nat.zero_testBit, Bool.xor_false]
    by_cases hj : j = k
    · subst hj; simp [hb]
    · have : (j < k) ↔ (j < k + 1) := by omega
      simp [this]
  · rw [h] at hb ⊢
    simp only [Nat.one_mul]
    by_cases hj : j = k
    · subst hj; rw [Nat.testBit_two_pow_self]; simp [hb]
    · rw [Nat.testBit_two_pow_of_ne (by omega)]
      have : (j < k) ↔ (j < k + 1) := by omega
      simp [this]
theorem cm_step (C a b i k : Nat) : (C ^^^ (a / 2 ^ i % 2 * (b % 2 ^ k)) * 2 ^ i) ^^^ (a / 2 ^ i % 2 * (b / 2 ^ k % 2)) * 2 ^ (i + k) = C ^^^ (a / 2 ^ i % 2 * (b % 2 ^ (k + 1))) * 2 ^ i := by
  rw [Nat.xor_assoc]
  congr 1
  rcases Nat.mod_two_eq_zero_or_one (a / 2 ^ i) with h | h
  · simp [h]
  · rw [h]
    simp only [Nat.one_mul]
    rw [← mod_next b k, mul_pow_xor]
    congr 1
    rw [Nat.mul_assoc, ← Nat.pow_add, Nat.add_comm k i]
end Go.Proofs.Ytmeffbooabionaa
