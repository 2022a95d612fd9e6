/- wholeref.GcdOf (Stein's road) gives the greatest common divisor; wholeref.Big tells numbers beyond ten to the ninth. -/
import Derived.Test.YtmeffbooabionaaRows
import Derived.Test.YtmeffbooabionaaBase
import Derived.Test.YtmeffbooabionaaIrM16
import Derived.Test.YtmeffbooabionaaSlices
set_option linter.unusedVariables false
set_option linter.unusedSimpArgs false
namespace Go.Proofs.Ytmeffbooabionaa
open Go.RowKit

theorem gcd_half (c d : Nat) (hc : c % 2 = 0) (hd : d % 2 = 1) : Nat.gcd (c / 2) d = Nat.gcd c d := by
  have e : c = 2 * (c / 2) := by omega
  have h2 : Nat.Coprime 2 d := by
    rw [Nat.Coprime, Nat.gcd_rec, hd]; rfl
  rw [e, Nat.Coprime.gcd_mul_left_cancel _ h2]
  congr 1; omega
theorem gcd_half' (c d : Nat) (hc : c % 2 = 1) (hd : d % 2 = 0) : Nat.gcd c (d / 2) = Nat.gcd c d := by
  rw [Nat.gcd_comm, gcd_half d c hd hc, Nat.gcd_comm]
theorem gcd_both (c d t G : Nat) (hc : c % 2 = 0) (hd : d % 2 = 0) (h : Nat.gcd c d * 2 ^ t = G) : Nat.gcd (c / 2) (d / 2) * 2 ^ (t + 1) = G := by
  have e1 : c = 2 * (c / 2) := by omega
  have e2 : d = 2 * (d / 2) := by omega
  rw [e1, e2, Nat.gcd_mul_left] at h
  rw [← h, Nat.pow_succ]
  simp only [Nat.mul_assoc, Nat.mul_comm, Nat.mul_left_comm]
theorem or_even (c d : Nat) : (c ||| d) % 2 = 0 ↔ c % 2 = 0 ∧ d % 2 = 0 := by
  have h : ((c ||| d) % 2) = ((c % 2) ||| (d % 2)) := Nat.or_mod_two_pow (a := c) (b := d) (n := 1)
  rw [h]
  rcases Nat.mod_two_eq_zero_or_one c with h1 | h1 <;> rcases Nat.mod_two_eq_zero_or_one d with h2 | h2 <;> simp [h1, h2]

theorem gcd_less (m n : Nat) (h : n ≤ m) : Nat.gcd n (m - n) = Nat.gcd m n := by
  obtain ⟨k, rfl⟩ := Nat.exists_eq_add_of_le h
  rw [Nat.add_sub_cancel_left, Nat.gcd_comm (n + k) n]; simp
/-- A number beyond ten to the ninth. -/
def bigB (x : Int) : Bool := decide (x < -1000000000 ∨ 1000000000 < x)
end Go.Proofs.Ytmeffbooabionaa
