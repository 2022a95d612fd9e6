/- The nearest fractions, as both sides reckon them. -/
import Derived.Test.YthnbhhfbmkklmaaRows
namespace Go.Proofs.Ythnbhhfbmkklmaa

def lowN (P Q : Nat) : Nat → Nat × Nat
  | 0 => (P / Q, 1)
  | i + 1 => if (lowN P Q i).1 * (i + 2) < P * (i + 2) / Q * (lowN P Q i).2 then (P * (i + 2) / Q, i + 2) else lowN P Q i
def highN (P Q : Nat) : Nat → Nat × Nat
  | 0 => ((P + Q - 1) / Q, 1)
  | i + 1 => if (P * (i + 2) + Q - 1) / Q * (highN P Q i).2 < (highN P Q i).1 * (i + 2) then ((P * (i + 2) + Q - 1) / Q, i + 2) else highN P Q i
theorem nmul_bd {P q : Nat} (hP : P ≤ 1000000) (hq : q ≤ 1000000) : P * q ≤ 1000000000000 := Nat.mul_le_mul hP hq
theorem lowN_bd {P Q : Nat} (hP : P ≤ 1000000) (hQ : Q ≤ 1000000) : ∀ i, i + 1 ≤ 1000000 → (lowN P Q i).1 ≤ 2000000000000 ∧ 1 ≤ (lowN P Q i).2 ∧ (lowN P Q i).2 ≤ i + 1
  | 0, _ => ⟨Nat.le_trans (Nat.div_le_self _ _) (by omega), Nat.le_refl _, Nat.le_refl _⟩
  | i + 1, h => by
    have ih := lowN_bd hP hQ i (by omega)
    unfold lowN
    split
    · refine ⟨Nat.le_trans (Nat.div_le_self _ _) ?_, by simp only; omega, by simp only; omega⟩
      have := nmul_bd hP (show i + 2 ≤ 1000000 by omega)
      omega
    · exact ⟨ih.1, ih.2.1, by omega⟩
theorem highN_bd {P Q : Nat} (hP : P ≤ 1000000) (hQ : Q ≤ 1000000) : ∀ i, i + 1 ≤ 1000000 → (highN P Q i).1 ≤ 2000000000000 ∧ 1 ≤ (highN P Q i).2 ∧ (highN P Q i).2 ≤ i + 1
  | 0, _ => ⟨Nat.le_trans (Nat.div_le_self _ _) (by omega), Nat.le_refl _, Nat.le_refl _⟩
  | i + 1, h => by
    have ih := highN_bd hP hQ i (by omega)
    unfold highN
    split
    · refine ⟨Nat.le_trans (Nat.div_le_self _ _) ?_, by simp only; omega, by simp only; omega⟩
      have := nmul_bd hP (show i + 2 ≤ 1000000 by omega)
      omega
    · exact ⟨ih.1, ih.2.1, by omega⟩
/-- The two that are tried at i. -/
structure Try2 (P Q i l1 l2 h1 h2 a b : Nat) : Prop where
  q1 : P * (i + 2) ≤ 1000000000000
  l : l1 ≤ 2000000000000 ∧ 1 ≤ l2 ∧ l2 ≤ 1000000
  h : h1 ≤ 2000000000000 ∧ 1 ≤ h2 ∧ h2 ≤ 1000000
  a : a ≤ 2000000000000
  b : b ≤ 2000000000000
theorem nprod_bd {x y : Nat} (hx : x ≤ 2000000000000) (hy : y ≤ 1000000) : x * y ≤ 2000000000000000000 := Nat.mul_le_mul hx hy
end Go.Proofs.Ythnbhhfbmkklmaa
