/- JACOBI's symbol, sums of two squares: plain arithmetic. -/
import Derived.Test.YtkincmkmkfiglaaMultM
import Derived.Test.YtkincmkmkfiglaaRestM
namespace Go.Proofs.Ytkincmkmkfiglaa

/-- LEGENDRE's symbol, by EULER's rule. -/
def leg (a : Int) (p : Nat) : Int := if pwm a ((p - 1) / 2) p = 0 then 0 else if pwm a ((p - 1) / 2) p = 1 then 1 else -1
theorem leg_bd (a : Int) (p : Nat) : -1 ≤ leg a p ∧ leg a p ≤ 1 := by unfold leg; split <;> (try split) <;> omega
theorem leg_cases (a : Int) (p : Nat) : leg a p = 0 ∨ leg a p = 1 ∨ leg a p = -1 := by unfold leg; split <;> (try split) <;> omega
theorem leg_dvd {a : Int} {p : Nat} (hp : 3 ≤ p) (h : a % p = 0) : pwm a ((p - 1) / 2) p = 0 := by
  unfold pwm
  obtain ⟨k, hk⟩ : ∃ k, (p - 1) / 2 = k + 1 := ⟨(p - 1) / 2 - 1, by omega⟩
  rw [hk, Int.pow_succ, Int.mul_emod, h, Int.mul_zero, Int.zero_emod]
def legG (a : Int) (p k : Nat) : Int := leg a p ^ k
noncomputable def jac (a : Int) (n : Nat) : Int := mult (legG a) n
theorem jac_one (a : Int) : jac a 1 = 1 := mult_one _
theorem jac_mul (a : Int) {p m : Nat} (hp : IsPr p) (hm : 1 ≤ m) : jac a (p * m) = leg a p * jac a m := by
  obtain ⟨j, e, rfl, he, he1⟩ := split_pow hp.1 hm
  unfold jac
  have e1 : p * (p ^ j * e) = p ^ (j + 1) * e := by rw [Nat.pow_succ, Nat.mul_comm (p ^ j) p, Nat.mul_assoc]
  rw [e1, mult_pow (legG a) hp (by omega) he he1]
  cases j with
  | zero => rw [Nat.pow_zero, Nat.one_mul]; unfold legG; rw [Int.pow_succ, Int.pow_zero, Int.one_mul]
  | succ j =>
    rw [mult_pow (legG a) hp (by omega) he he1]
    unfold legG
    rw [Int.pow_succ _ (j + 1), Int.mul_comm (leg a p ^ (j + 1)), Int.mul_assoc]
theorem jac_bd (a : Int) : ∀ {n : Nat}, 1 ≤ n → -1 ≤ jac a n ∧ jac a n ≤ 1 := by
  intro n
  induction n using Nat.strongRecOn with
  | _ n ih =>
    intro hn
    by_cases h1 : n = 1
    · subst h1; rw [jac_one]; omega
    · obtain ⟨p, hp, m, hm⟩ := pr_divisor (show 2 ≤ n by omega)
      have hm1 : 1 ≤ m := by rcases Nat.eq_zero_or_pos m with h0 | h0
                             · subst h0; omega
                             · exact h0
      have hlt : m < n := by
        have := Nat.mul_le_mul_right m hp.1
        omega
      have h2 := ih m hlt hm1
      have h3 := leg_cases a p
      rw [hm, jac_mul a hp hm1]
      rcases h3 with h3 | h3 | h3 <;> rw [h3] <;> omega
theorem pow_bd {x : Int} (h : x = 0 ∨ x = 1 ∨ x = -1) (k : Nat) : x ^ k = 0 ∨ x ^ k = 1 ∨ x ^ k = -1 := by
  induction k with
  | zero => right; left; exact Int.pow_zero x
  | succ k ih =>
    rw [Int.pow_succ]
    rcases ih with ih | ih | ih <;> rcases h with h | h | h <;> rw [ih, h] <;> decide
theorem valL_bd (a : Int) (l : List (Nat × Nat)) : valL (legG a) l = 0 ∨ valL (legG a) l = 1 ∨ valL (legG a) l = -1 := by
  induction l with
  | nil => right; left; rfl
  | cons b l ih =>
    simp only [valL, legG]
    have h := pow_bd (leg_cases a b.1) b.2
    rcases ih with ih | ih | ih <;> rcases h with h | h | h <;> rw [ih, h] <;> decide
/-- Odd numbers: two by two. -/
theorem NoDiv.odd {m p : Nat} (h : NoDiv m p) (hm : m % 2 = 1) (hp : p % 2 = 1) (hd : ¬ p ∣ m) : NoDiv m (p + 2) := by
  have h1 := h.next hd
  refine h1.next ?_
  intro h2
  have h3 : 2 ∣ m := Nat.dvd_trans (by omega) h2
  omega

/-- Two squares, the first of which is the least. -/
def IsTwo (n x y : Nat) : Prop := x ≤ y ∧ x * x + y * y = n ∧ ∀ u v, u < x → u ≤ v → u * u + v * v ≠ n
def NoTwo (n : Nat) : Prop := ∀ u v, u ≤ v → u * u + v * v ≠ n
theorem IsTwo.uniq {n x y u v : Nat} (h : IsTwo n x y) (k : IsTwo n u v) : x = u ∧ y = v := by
  have hxu : x = u := by
    rcases Nat.lt_trichotomy x u with h1 | h1 | h1
    · exact absurd h.2.1 (k.2.2 x y h1 h.1)
    · exact h1
    · exact absurd k.2.1 (h.2.2 u v h1 k.1)
  subst hxu
  refine ⟨rfl, ?_⟩
  have h1 := h.2.1
  have h2 := k.2.1
  rcases Nat.lt_trichotomy y v with h3 | h3 | h3
  · have := Nat.mul_lt_mul_of_lt_of_le h3 (Nat.le_of_lt h3) (by omega); omega
  · exact h3
  · have := Nat.mul_lt_mul_of_lt_of_le h3 (Nat.le_of_lt h3) (by omega); omega
end Go.Proofs.Ytkincmkmkfiglaa
