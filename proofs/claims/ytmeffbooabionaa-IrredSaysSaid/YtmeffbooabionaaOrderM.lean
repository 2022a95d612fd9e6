/- The order of a number modulo m, in plain arithmetic. -/
import Derived.Test.YtmeffbooabionaaIrM16
set_option linter.unusedVariables false
set_option linter.unusedSimpArgs false
namespace Go.Proofs.Ytmeffbooabionaa

theorem pigeon : ∀ (n : Nat) (f : Nat → Nat), (∀ i, i ≤ n → f i < n) → ∃ i j, i < j ∧ j ≤ n ∧ f i = f j := by
  intro n
  induction n with
  | zero => intro f h; have := h 0 (by omega); omega
  | succ n ih =>
    intro f h
    by_cases hv : ∃ i, i ≤ n ∧ f i = f (n + 1)
    · obtain ⟨i, hi, he⟩ := hv
      exact ⟨i, n + 1, by omega, by omega, he⟩
    · have hno : ∀ i, i ≤ n → f i ≠ f (n + 1) := fun i hi he => hv ⟨i, hi, he⟩
      have hvb := h (n + 1) (Nat.le_refl _)
      obtain ⟨i, j, hij, hj, he⟩ := ih (fun i => if f i = n then f (n + 1) else f i) (fun i hi => by
        have h1 := h i (by omega)
        have h2 := hno i hi
        show (if f i = n then f (n + 1) else f i) < n
        split <;> omega)
      refine ⟨i, j, hij, by omega, ?_⟩
      have h1 := hno i (by omega)
      have h2 := hno j hj
      split at he <;> split at he <;> omega
theorem first_nat {p : Nat → Prop} {k : Nat} (h : p k) : ∃ m, m ≤ k ∧ p m ∧ ∀ j, j < m → ¬ p j := by
  induction k using Nat.strongRecOn with
  | _ k ih =>
    by_cases hh : ∃ j, j < k ∧ p j
    · obtain ⟨j, hj, hp⟩ := hh
      obtain ⟨m, hm, h2⟩ := ih j hj hp
      exact ⟨m, by omega, h2⟩
    · exact ⟨k, Nat.le_refl _, h, fun j hj hp => hh ⟨j, hj, hp⟩⟩

/-- Where x undoes a, equal powers may be shortened. -/
theorem cancel_pow {a x m : Int} (hx : x * a % m = 1 % m) (i d : Nat) (h : pwm a i m = pwm a (i + d) m) : pwm a d m = 1 % m := by
  induction i with
  | zero => rw [Nat.zero_add] at h; rw [← h]; unfold pwm; rw [Int.pow_zero]
  | succ i ih =>
    apply ih
    have e : ∀ n : Nat, x * a ^ (n + 1) % m = pwm a n m := fun n => by
      unfold pwm
      rw [Int.pow_succ, Int.mul_comm (a ^ n) a, ← Int.mul_assoc, Int.mul_emod, hx, ← Int.mul_emod, Int.one_mul]
    have h1 : x * a ^ (i + 1) % m = x * a ^ (i + 1 + d) % m := by
      rw [Int.mul_emod, Int.mul_emod x (a ^ (i + 1 + d))]
      have : a ^ (i + 1) % m = a ^ (i + 1 + d) % m := h
      rw [this]
    rw [e i, show i + 1 + d = (i + d) + 1 by omega, e (i + d)] at h1
    exact h1
/-- k is the order of a modulo m. -/
def IsOrder (a m : Int) (k : Nat) : Prop := 1 ≤ k ∧ pwm a k m = 1 % m ∧ ∀ j, 1 ≤ j → j < k → pwm a j m ≠ 1 % m
theorem order_exists {a x m : Int} (hm : 1 ≤ m) (hx : x * a % m = 1 % m) : ∃ k, IsOrder a m k ∧ k ≤ m.toNat := by
  obtain ⟨i, j, hij, hj, he⟩ := pigeon m.toNat (fun i => (pwm a i m).toNat) (fun i _ => by have := pwm_nonneg a i hm; show (pwm a i m).toNat < m.toNat; omega)
  have h1 := pwm_nonneg a i hm
  have h2 := pwm_nonneg a j hm
  have he2 : pwm a i m = pwm a (i + (j - i)) m := by
    rw [show i + (j - i) = j by omega]; have he3 : (pwm a i m).toNat = (pwm a j m).toNat := he; omega
  have h3 := cancel_pow hx i (j - i) he2
  obtain ⟨k, hk, ⟨hk1, hk2⟩, hk3⟩ := first_nat (p := fun k => 1 ≤ k ∧ pwm a k m = 1 % m) (k := j - i) ⟨by omega, h3⟩
  exact ⟨k, ⟨hk1, hk2, fun j h4 h5 h6 => hk3 j h5 ⟨h4, h6⟩⟩, by omega⟩
end Go.Proofs.Ytmeffbooabionaa
