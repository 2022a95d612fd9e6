/- Contracts of package prime (Is, Next) and of wholeref.Prime. -/
import Derived.Test.YtmgpohomgblkkaaDoorRows
import Derived.Test.YtmgpohomgblkkaaDoorBase
import Derived.Test.YtmgpohomgblkkaaDoorPrimeM
namespace Go.Proofs.YtmgpohomgblkkaaDoor
open Go.RowKit

theorem sq_int (d : Nat) (M : Nat) (h : d ≤ M) : 0 ≤ (d : Int) * d ∧ (d : Int) * d ≤ (M : Int) * M := by
  have h1 : d * d ≤ M * M := Nat.mul_le_mul h h
  have h2 : ((d * d : Nat) : Int) = (d : Int) * d := by push_cast; rfl
  have h3 : ((M * M : Nat) : Int) = (M : Int) * M := by push_cast; rfl
  omega
theorem dvd_beq (n d : Nat) (h : d ∣ n) : ((n : Int) % (d : Int) == 0) = true := by
  have : ((n % d : Nat) : Int) = 0 := by rw [Nat.mod_eq_zero_of_dvd h]; rfl
  rw [Int.natCast_emod] at this
  simp [this]
theorem ndvd_beq (n d : Nat) (h : ¬ d ∣ n) : ((n : Int) % (d : Int) == 0) = false := by
  have h1 : n % d ≠ 0 := fun h2 => h (Nat.dvd_of_mod_eq_zero h2)
  have : ((n : Int) % (d : Int)) = ((n % d : Nat) : Int) := rfl
  rw [this]
  simp; omega
theorem le_sq {n d : Nat} (h : (d : Int) * d ≤ n) : d * d ≤ n := by
  have h2 : ((d * d : Nat) : Int) = (d : Int) * d := by push_cast; rfl
  omega
theorem lt_sq {n d : Nat} (h : ¬ (d : Int) * d ≤ n) : n < d * d := by
  have h2 : ((d * d : Nat) : Int) = (d : Int) * d := by push_cast; rfl
  omega

/-- The first prime from n on, up to a million. -/
def IsNext (n p : Nat) : Prop := n ≤ p ∧ p ≤ 1000000 ∧ IsPr p ∧ ∀ q, n ≤ q → q < p → ¬ IsPr q
def NoNext (n : Nat) : Prop := ∀ q, n ≤ q → q ≤ 1000000 → ¬ IsPr q
noncomputable def nextI (n : Nat) : Int × Int := @ite _ (∃ p, IsNext n p) (Classical.propDecidable _) (((Classical.epsilon (IsNext n) : Nat) : Int), 0) (0, 4)
theorem IsNext.uniq {n p q : Nat} (h : IsNext n p) (k : IsNext n q) : p = q := by
  rcases Nat.lt_trichotomy p q with h1 | h1 | h1
  · exact absurd h.2.2.1 (k.2.2.2 p h.1 h1)
  · exact h1
  · exact absurd k.2.2.1 (h.2.2.2 q k.1 h1)
theorem nextI_some {n p : Nat} (h : IsNext n p) : nextI n = ((p : Int), 0) := by
  unfold nextI
  rw [if_pos ⟨p, h⟩, (Classical.epsilon_spec (p := IsNext n) ⟨p, h⟩).uniq h]
theorem nextI_none {n : Nat} (h : NoNext n) : nextI n = (0, 4) := by
  unfold nextI
  rw [if_neg]
  rintro ⟨p, h1, h2, h3, _⟩
  exact h p h1 h2 h3

end Go.Proofs.YtmgpohomgblkkaaDoor
