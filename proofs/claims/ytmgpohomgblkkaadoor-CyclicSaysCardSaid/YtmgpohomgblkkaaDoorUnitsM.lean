/- Units modulo a product (EULER, GAUSS, SUN TZU): plain arithmetic. -/
import Derived.Test.YtmgpohomgblkkaaDoorMultM
import Derived.Test.YtmgpohomgblkkaaDoorChinM
namespace Go.Proofs.YtmgpohomgblkkaaDoor

theorem phi_mul {a b : Nat} (ha : 1 ≤ a) (hb : 1 ≤ b) (h : Nat.gcd a b = 1) : phi (a * b) = phi a * phi b := mult_coprime phiG ha hb h
/-- One step of the loop: n / P * (P - 1). -/
theorem phi_step {c P M : Nat} {V : Int} {R : Nat} (hP : 1 ≤ P) (h : (c : Int) = V * ((P ^ (M + 1) * R : Nat) : Int)) : ((c / P * (P - 1) : Nat) : Int) = V * phiG P (M + 1) * (R : Int) := by
  have e1 : (c : Int) = (P : Int) * (V * ((P ^ M * R : Nat) : Int)) := by
    rw [h, Nat.pow_succ]
    push_cast
    rw [Int.mul_left_comm (P : Int) V]
    congr 1
    rw [Int.mul_comm ((P : Int) ^ M) (P : Int), Int.mul_assoc]
  have e2 : ((c / P : Nat) : Int) = V * ((P ^ M * R : Nat) : Int) := by
    have : ((c / P : Nat) : Int) = (c : Int) / (P : Int) := by push_cast; rfl
    rw [this, e1, Int.mul_ediv_cancel_left _ (by omega)]
  have e3 : ((c / P * (P - 1) : Nat) : Int) = ((c / P : Nat) : Int) * ((P : Int) - 1) := by rw [show (P : Int) - 1 = ((P - 1 : Nat) : Int) by omega]; push_cast; rfl
  rw [e3, e2]
  unfold phiG
  rw [Nat.add_sub_cancel]
  have e4 : ((P ^ M * R : Nat) : Int) = (P : Int) ^ M * (R : Int) := by push_cast; rfl
  rw [e4, Int.mul_assoc V, Int.mul_assoc V, Int.mul_assoc, Int.mul_assoc, Int.mul_comm (R : Int)]
theorem phi_le (c P : Nat) : c / P * (P - 1) ≤ c := Nat.le_trans (Nat.mul_le_mul_left _ (Nat.sub_le _ _)) (Nat.div_mul_le_self c P)

/-- A number that has nothing in common with a product has nothing in common with its parts. -/
theorem gcd_prod {a m n : Nat} : Nat.gcd a (m * n) = 1 ↔ Nat.gcd a m = 1 ∧ Nat.gcd a n = 1 := by
  constructor
  · intro h
    exact ⟨Nat.eq_one_of_dvd_one (by rw [← h]; exact Nat.dvd_gcd (Nat.gcd_dvd_left _ _) (Nat.dvd_trans (Nat.gcd_dvd_right _ _) (Nat.dvd_mul_right _ _))),
      Nat.eq_one_of_dvd_one (by rw [← h]; exact Nat.dvd_gcd (Nat.gcd_dvd_left _ _) (Nat.dvd_trans (Nat.gcd_dvd_right _ _) (Nat.dvd_mul_left _ _)))⟩
  · rintro ⟨h1, h2⟩
    exact Nat.Coprime.mul_right h1 h2
theorem gcd_em (a : Int) (m : Nat) : Int.gcd (a % (m : Int)) (m : Int) = Int.gcd a (m : Int) := by
  apply Nat.dvd_antisymm
  · refine Int.dvd_gcd ?_ (Int.gcd_dvd_right _ _)
    have h1 := Int.gcd_dvd_left (a % (m:Int)) (m:Int)
    have h2 := Int.gcd_dvd_right (a % (m:Int)) (m:Int)
    have h3 := Int.dvd_add h1 (Int.dvd_trans h2 (Int.dvd_mul_right (m : Int) (a / (m : Int))))
    rwa [Int.emod_add_mul_ediv] at h3
  · refine Int.dvd_gcd ?_ (Int.gcd_dvd_right _ _)
    rw [Int.emod_def]
    exact Int.dvd_sub (Int.gcd_dvd_left _ _) (Int.dvd_trans (Int.gcd_dvd_right _ _) (Int.dvd_mul_right _ _))
/-- Congruent modulo both, congruent modulo the product. -/
theorem uniq2 {m n z x : Nat} (h : Nat.gcd m n = 1) (hz : z < m * n) (hx : x < m * n) (h1 : z % m = x % m) (h2 : z % n = x % n) : z = x := by
  have a1 : (m : Int) ∣ (z : Int) - x := by
    have : ((z : Int) - x) % m = 0 := Int.emod_eq_emod_iff_emod_sub_eq_zero.1 (by exact_mod_cast h1)
    exact Int.dvd_of_emod_eq_zero this
  have a2 : (n : Int) ∣ (z : Int) - x := by
    have : ((z : Int) - x) % n = 0 := Int.emod_eq_emod_iff_emod_sub_eq_zero.1 (by exact_mod_cast h2)
    exact Int.dvd_of_emod_eq_zero this
  have b1 : m ∣ ((z : Int) - x).natAbs := by rw [← Int.natCast_dvd_natCast, Int.dvd_natAbs]; exact a1
  have b2 : n ∣ ((z : Int) - x).natAbs := by rw [← Int.natCast_dvd_natCast, Int.dvd_natAbs]; exact a2
  have b3 : m * n ∣ ((z : Int) - x).natAbs := Nat.Coprime.mul_dvd_of_dvd_of_dvd h b1 b2
  have b4 : ((z : Int) - x).natAbs < m * n := by omega
  have := Nat.eq_zero_of_dvd_of_lt b3 b4
  omega
/-- An inverse modulo a product is one modulo its parts, and there is but one. -/
theorem inv_uniq {a : Int} {m : Nat} {x y : Int} (hx : x * a % m = 1 % m) (hy : y * a % m = 1 % m) : x % m = y % m := by
  have h1 : x * (y * a) % m = x % m := by rw [Int.mul_emod, hy, ← Int.mul_emod, Int.mul_one]
  have h2 : y * (x * a) % m = y % m := by rw [Int.mul_emod, hx, ← Int.mul_emod, Int.mul_one]
  rw [← h1, ← h2]
  congr 1
  rw [Int.mul_left_comm]
theorem inv_part {a z : Int} {m n : Nat} (h : z * a % ((m * n : Nat) : Int) = 1 % ((m * n : Nat) : Int)) : z * a % m = 1 % m := by
  have h1 : z * a % ((m * n : Nat) : Int) % (m : Int) = 1 % ((m * n : Nat) : Int) % (m : Int) := by rw [h]
  have hd : (m : Int) ∣ ((m * n : Nat) : Int) := ⟨n, by push_cast; rfl⟩
  rwa [Int.emod_emod_of_dvd _ hd, Int.emod_emod_of_dvd _ hd] at h1
theorem gI_a (a : Int) (m : Nat) : gI (a % (m : Int)) (m : Int) = ((Nat.gcd a.natAbs m : Nat) : Int) := by
  unfold gI
  rw [gcd_em]; rfl
end Go.Proofs.YtmgpohomgblkkaaDoor
