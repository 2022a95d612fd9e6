/- Powers modulo m in plain arithmetic. -/
namespace Go.Proofs.YtmgpohomgblkkaaDoor

/-- A power modulo m. -/
def pwm (a : Int) (n : Nat) (m : Int) : Int := a ^ n % m
theorem pow_emod (a m : Int) (n : Nat) : (a % m) ^ n % m = a ^ n % m := by
  induction n with
  | zero => simp
  | succ n ih => rw [Int.pow_succ, Int.pow_succ, Int.mul_emod, ih, Int.emod_emod, ← Int.mul_emod]
theorem pwm_mod (a m : Int) (n : Nat) : pwm (a % m) n m = pwm a n m := pow_emod a m n
theorem mul_pow_emod (x y m : Int) (j : Nat) : (x % m * (y % m) ^ j) % m = (x * y ^ j) % m := by
  rw [Int.mul_emod, Int.emod_emod, pow_emod, ← Int.mul_emod]
theorem pwm_nonneg (a : Int) (n : Nat) {m : Int} (hm : 1 ≤ m) : 0 ≤ pwm a n m ∧ pwm a n m < m :=
  ⟨Int.emod_nonneg _ (by omega), Int.emod_lt_of_pos _ (by omega)⟩
theorem sq_pow (a : Int) (j : Nat) : (a * a) ^ j = a ^ (2 * j) := by
  induction j with
  | zero => simp
  | succ j ih => rw [Int.pow_succ, ih, show 2 * (j + 1) = 2 * j + 1 + 1 by omega, Int.pow_succ, Int.pow_succ, Int.mul_assoc]
theorem pow_odd (out A : Int) (m : Int) (k : Nat) (h : k % 2 = 1) : (out * A % m * (A * A % m) ^ (k / 2)) % m = (out * A ^ k) % m := by
  rw [mul_pow_emod, sq_pow, Int.mul_assoc, Int.mul_comm A, ← Int.pow_succ]
  congr 3; omega
theorem pow_even (out A : Int) (m : Int) (k : Nat) (h : k % 2 = 0) : (out * (A * A % m) ^ (k / 2)) % m = (out * A ^ k) % m := by
  have : (out * (A * A % m) ^ (k / 2)) % m = (out % m * (A * A % m) ^ (k / 2)) % m := by
    generalize (A * A % m) ^ (k / 2) = X
    exact (Int.mul_emod out X m).trans (by rw [Int.mul_emod (out % m) X m, Int.emod_emod])
  rw [this, mul_pow_emod, sq_pow]
  congr 3; omega
theorem pwm_half (a : Int) (n : Nat) (m : Int) : pwm a (n / 2) m * pwm a (n / 2) m % m = pwm a (2 * (n / 2)) m := by
  unfold pwm
  rw [← Int.mul_emod, show 2 * (n / 2) = n / 2 + n / 2 by omega, Int.pow_add]
theorem pwm_succ (a : Int) (n : Nat) (m : Int) : pwm a n m * (a % m) % m = pwm a (n + 1) m := by
  unfold pwm
  rw [← Int.mul_emod, Int.pow_succ]
theorem prod_bd {x y M : Int} (hx : 0 ≤ x) (hx' : x ≤ M) (hy : 0 ≤ y) (hy' : y ≤ M) : 0 ≤ x * y ∧ x * y ≤ M * M :=
  ⟨Int.mul_nonneg hx hy, Int.mul_le_mul hx' hy' hy (by omega)⟩
end Go.Proofs.YtmgpohomgblkkaaDoor
