/- Points over a prime field: interpolation. The plain law. No program. -/
import Derived.Test.YtiljppeamdoocaaPolyL
import Derived.Test.YtiljppeamdoocaaFermatM
import Derived.Test.YtiljppeamdoocaaUnitsM
namespace Go.Proofs.Ytiljppeamdoocaa

/-- The product of z - X k over the places below m but i. -/
def pz (X : Nat → Int) (i : Nat) (z : Int) : Nat → Int
  | 0 => 1
  | k + 1 => if k = i then pz X i z k else pz X i z k * (z - X k)
theorem pz_zero (X : Nat → Int) {i j : Nat} (hij : j ≠ i) : ∀ m, j < m → pz X i (X j) m = 0
  | 0, h => by omega
  | m + 1, h => by
    unfold pz
    by_cases hm : m = i
    · rw [if_pos hm]
      exact pz_zero X hij m (by omega)
    · rw [if_neg hm]
      by_cases hj : j = m
      · subst hj; rw [Int.sub_self, Int.mul_zero]
      · rw [pz_zero X hij m (by omega), Int.zero_mul]
/-- The sum of V i times the products. -/
def lsum (X V : Nat → Int) (n : Nat) (z : Int) : Nat → Int
  | 0 => 0
  | i + 1 => lsum X V n z i + V i * pz X i z n
theorem lsum_at (X V : Nat → Int) (n : Nat) {j : Nat} (hj : j < n) : ∀ m, lsum X V n (X j) m = if j < m then V j * pz X j (X j) n else 0
  | 0 => rfl
  | m + 1 => by
    unfold lsum
    rw [lsum_at X V n hj m]
    rcases Nat.lt_trichotomy j m with h | h | h
    · rw [if_pos h, if_pos (by omega), pz_zero X (i := m) (j := j) (by omega) n hj, Int.mul_zero, Int.add_zero]
    · subst h; rw [if_neg (by omega), if_pos (by omega), Int.zero_add]
    · rw [if_neg (by omega), if_neg (by omega), pz_zero X (i := m) (j := j) (by omega) n hj, Int.mul_zero, Int.add_zero]
theorem lsum_congr (X V V' : Nat → Int) (n : Nat) (z p : Int) : ∀ m, (∀ i, i < m → V i % p = V' i % p) → lsum X V n z m % p = lsum X V' n z m % p
  | 0, _ => rfl
  | m + 1, h => by
    unfold lsum
    rw [Int.add_emod, Int.mul_emod, lsum_congr X V V' n z p m (fun i hi => h i (by omega)), h m (by omega), ← Int.mul_emod, ← Int.add_emod]
theorem prime_dvd {p a b : Int} (hp : IsPr p.toNat) (h1 : 1 < p) (h : p ∣ a * b) : p ∣ a ∨ p ∣ b := by
  obtain ⟨n, rfl⟩ : ∃ n : Nat, p = n := ⟨p.toNat, by omega⟩
  rw [Int.toNat_natCast] at hp
  rw [← Int.natAbs_dvd_natAbs, Int.natAbs_mul] at h
  rw [← Int.natAbs_dvd_natAbs, ← Int.natAbs_dvd_natAbs]
  exact IsPr.dvd_mul (by simpa using hp) h
theorem pz_ne {p : Int} (hp : IsPr p.toNat) (h1 : 1 < p) (X : Nat → Int) (i : Nat) : ∀ m, (∀ k, k < m → k ≠ i → ¬ p ∣ X i - X k) → ¬ p ∣ pz X i (X i) m
  | 0, _ => by
    show ¬ p ∣ 1
    intro h
    have := Int.le_of_dvd (by omega) h
    omega
  | m + 1, h => by
    unfold pz
    have ih := pz_ne hp h1 X i m (fun k hk => h k (by omega))
    by_cases hm : m = i
    · rw [if_pos hm]; exact ih
    · rw [if_neg hm]
      intro hd
      rcases prime_dvd hp h1 hd with h2 | h2
      · exact ih h2
      · exact h m (by omega) hm h2
theorem diff_ne {p a b : Int} (h1 : 1 < p) (ha : 0 ≤ a) (ha2 : a < p) (hb : 0 ≤ b) (hb2 : b < p) (hne : a ≠ b) : ¬ p ∣ a - b := by
  rintro ⟨c, hc⟩
  have h2 : c = 0 := by
    rcases Int.lt_trichotomy c 0 with h | h | h
    · have : p * c ≤ p * (-1) := Int.mul_le_mul_of_nonneg_left (by omega) (by omega)
      omega
    · exact h
    · have : p * 1 ≤ p * c := Int.mul_le_mul_of_nonneg_left (by omega) (by omega)
      omega
  rw [h2, Int.mul_zero] at hc
  omega
/-- The product of (X i - X k) to the power p - 2. -/
def pw (X : Nat → Int) (i : Nat) (e : Nat) : Nat → Int
  | 0 => 1
  | k + 1 => if k = i then pw X i e k else pw X i e k * (X i - X k) ^ e
theorem pw_pz (X : Nat → Int) (i e : Nat) : ∀ m, pw X i e m = pz X i (X i) m ^ e
  | 0 => by show (1 : Int) = 1 ^ e; rw [Int.one_pow]
  | m + 1 => by
    unfold pw pz
    by_cases hm : m = i
    · rw [if_pos hm, if_pos hm]; exact pw_pz X i e m
    · rw [if_neg hm, if_neg hm, pw_pz X i e m, Int.mul_pow]
theorem fermat' {p : Int} (hp : IsPr p.toNat) (h1 : 1 < p) {a : Int} (hn : ¬ p ∣ a) : a ^ (p.toNat - 2) * a % p = 1 := by
  obtain ⟨n, rfl⟩ : ∃ n : Nat, p = n := ⟨p.toNat, by omega⟩
  rw [Int.toNat_natCast] at hp ⊢
  have h0 : 0 ≤ a % (n : Int) := Int.emod_nonneg _ (by omega)
  have hn2 : ¬ (n : Int) ∣ a % n := fun h => hn ((Int.dvd_iff_emod_eq_zero).2 (by have := Int.emod_eq_zero_of_dvd h; rwa [Int.emod_emod_of_dvd _ (Int.dvd_refl _)] at this))
  have h := fermat hp h0 hn2
  have e1 : (1 : Int) % n = 1 := Int.emod_eq_of_lt (by omega) (by omega)
  rw [e1] at h
  have e2 := mul_pow_emod a a n (n - 2)
  rw [Int.mul_comm] at h
  rw [Int.mul_comm, ← e2]
  exact h
theorem inv_eq {p x y d : Int} (h1 : 1 < p) (hx : x * d % p = 1) (hy : y * d % p = 1) : x % p = y % p := inv_same h1 hx hy
/-- What the document's term is: the value of Through's term. -/
theorem term_same {p : Int} (hp : IsPr p.toNat) (h1 : 1 < p) (X : Nat → Int) (i n : Nat) {inv : Int} (hne : ∀ k, k < n → k ≠ i → ¬ p ∣ X i - X k) (hinv : inv * pz X i (X i) n % p = 1) : pw X i (p.toNat - 2) n % p = inv % p := by
  rw [pw_pz]
  exact inv_same h1 (fermat' hp h1 (pz_ne hp h1 X i n hne)) hinv
end Go.Proofs.Ytiljppeamdoocaa
