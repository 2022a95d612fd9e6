/- Ones of a word of sixteen bits: by a table of bytes, by sixteen shifts. -/
import Derived.Test.YtmeffbooabionaaBase
namespace Go.Proofs.Ytmeffbooabionaa
/-- The ones among the first k bits. -/
def onesF (a : Nat) : Nat → Nat
  | 0 => 0
  | k + 1 => onesF a k + (a / 2 ^ k % 2)
theorem onesF_le (a k : Nat) : onesF a k ≤ k := by
  induction k with
  | zero => simp [onesF]
  | succ k ih => simp only [onesF]; omega
def ones16 (a : Nat) : Nat := onesF a 16
theorem onesF_mod (a : Nat) : ∀ k, k ≤ 8 → onesF a k = onesF (a % 256) k := by
  intro k
  induction k with
  | zero => intro _; rfl
  | succ k ih =>
    intro hk
    simp only [onesF]
    rw [ih (by omega)]
    have h : ∀ j, j < 8 → a / 2 ^ j % 2 = a % 256 / 2 ^ j % 2 := by
      intro j hj
      rcases (by omega : j = 0 ∨ j = 1 ∨ j = 2 ∨ j = 3 ∨ j = 4 ∨ j = 5 ∨ j = 6 ∨ j = 7) with rfl | rfl | rfl | rfl | rfl | rfl | rfl | rfl <;> simp only [Nat.reducePow] <;> omega
    rw [h k (by omega)]
theorem onesF_div (a : Nat) : ∀ k, onesF a (8 + k) = onesF a 8 + onesF (a / 256) k := by
  intro k
  induction k with
  | zero => rfl
  | succ k ih =>
    show onesF a (8 + k) + a / 2 ^ (8 + k) % 2 = _ + (onesF (a / 256) k + _)
    rw [ih, show 2 ^ (8 + k) = 256 * 2 ^ k by rw [Nat.pow_add], ← Nat.div_div_eq_div_mul]; omega
theorem ones16_split (a : Nat) : ones16 a = onesF (a / 256) 8 + onesF (a % 256) 8 := by
  unfold ones16
  rw [show (16 : Nat) = 8 + 8 from rfl, onesF_div a 8, onesF_mod a 8 (by omega)]; omega
end Go.Proofs.Ytmeffbooabionaa
