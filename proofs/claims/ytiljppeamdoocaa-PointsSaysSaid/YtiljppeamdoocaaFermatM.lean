/- FERMAT's law, by the binomial coefficients. No program. -/
import Derived.Test.YtiljppeamdoocaaBinomM
import Derived.Test.YtiljppeamdoocaaPrimeM
import Derived.Test.YtiljppeamdoocaaMultM
import Derived.Test.YtiljppeamdoocaaPolyV
namespace Go.Proofs.Ytiljppeamdoocaa

theorem ch_absorb : ∀ n k : Nat, (k + 1) * ch (n + 1) (k + 1) = (n + 1) * ch n k
  | 0, 0 => rfl
  | 0, k + 1 => by rw [ch_succ, ch_big 0 (k + 1) (by omega), ch_big 0 (k + 1 + 1) (by omega), Nat.add_zero, Nat.mul_zero, Nat.mul_zero]
  | n + 1, 0 => by
    have h := ch_absorb n 0
    rw [ch_succ, ch_zero, Nat.mul_add]
    rw [ch_zero] at h
    omega
  | n + 1, k + 1 => by
    have h1 := ch_absorb n k
    have h2 := ch_absorb n (k + 1)
    rw [ch_succ (n + 1) (k + 1)]
    have e : ch (n + 1) (k + 1) = ch n k + ch n (k + 1) := ch_succ n k
    rw [Nat.mul_add, h2, Nat.add_mul, h1, e]
    grind
theorem binom_thm (a : Int) : ∀ n : Nat, evn a (fun k => (ch n k : Int)) (n + 1) = (1 + a) ^ n
  | 0 => by simp [evn, ch_zero]
  | n + 1 => by
    have e : (fun k => (ch (n + 1) k : Int)) = fun k => (ch n k : Int) + shf (fun k => (ch n k : Int)) k := by
      funext k
      cases k with
      | zero => rw [ch_zero, ch_zero]; rfl
      | succ k =>
        rw [ch_succ]
        unfold shf
        rw [if_pos (by omega), Nat.add_sub_cancel, Int.natCast_add]
        show (ch n k : Int) + _ = _ + (ch n k : Int)
        omega
    rw [e, evn_add, evn_shf, evn_more a _ (n + 1) (fun k hk => by rw [ch_big n k (by omega)]; rfl) 1, binom_thm a n, Int.pow_succ]
    grind
theorem ch_prime {p k : Nat} (hp : IsPr p) (h0 : 0 < k) (h1 : k < p) : p ∣ ch p k := by
  obtain ⟨n, rfl⟩ : ∃ n, p = n + 1 := ⟨p - 1, by omega⟩
  obtain ⟨j, rfl⟩ : ∃ j, k = j + 1 := ⟨k - 1, by omega⟩
  have h := ch_absorb n j
  have hd : (n + 1) ∣ (j + 1) * ch (n + 1) (j + 1) := ⟨ch n j, h⟩
  rcases hp.dvd_mul hd with h2 | h2
  · exact absurd (Nat.le_of_dvd (by omega) h2) (by omega)
  · exact h2
theorem evn_zero (a : Int) : ∀ n, evn a (fun _ => 0) n = 0
  | 0 => rfl
  | n + 1 => by
    show evn a (fun _ => 0) n + 0 * a ^ n = 0
    rw [evn_zero a n]; omega
theorem pow_step {p : Nat} (hp : IsPr p) (a : Int) : (1 + a) ^ p % p = (1 + a ^ p) % p := by
  have h2 := hp.1
  rw [← binom_thm]
  obtain ⟨n, rfl⟩ : ∃ n, p = n + 1 := ⟨p - 1, by omega⟩
  show (evn a (fun k => (ch (n + 1) k : Int)) (n + 1) + (ch (n + 1) (n + 1) : Int) * a ^ (n + 1)) % _ = _
  have e : evn a (fun k => (ch (n + 1) k : Int)) (n + 1) % ((n + 1 : Nat) : Int) = evn a (fun k => if k = 0 then 1 else 0) (n + 1) % ((n + 1 : Nat) : Int) := by
    refine evn_congr a _ _ fun k hk => ?_
    by_cases h : k = 0
    · subst h; rw [ch_zero, if_pos rfl]; rfl
    · obtain ⟨c, hc⟩ := ch_prime hp (by omega) hk
      rw [hc, if_neg h, Int.natCast_mul, Int.mul_emod_right]; rfl
  have e2 : ∀ m, evn a (fun k => if k = 0 then 1 else 0) (m + 1) = 1 := by
    intro m
    induction m with
    | zero => simp [evn]
    | succ m ih =>
      show evn a _ (m + 1) + (if m + 1 = 0 then 1 else 0) * a ^ (m + 1) = 1
      rw [ih, if_neg (by omega)]; omega
  rw [e2] at e
  rw [Int.add_emod, e, ← Int.add_emod, ch_self]
  congr 1
  have : ((1 : Nat) : Int) = 1 := rfl
  rw [this, Int.one_mul]
theorem fermat_nat {p : Nat} (hp : IsPr p) : ∀ a : Nat, (a : Int) ^ p % p = (a : Int) % p
  | 0 => by
    have := hp.1
    obtain ⟨n, rfl⟩ : ∃ n, p = n + 1 := ⟨p - 1, by omega⟩
    show (0 : Int) ^ (n + 1) % _ = _
    rw [Int.pow_succ, Int.mul_zero]; rfl
  | a + 1 => by
    have e : ((a + 1 : Nat) : Int) = 1 + (a : Int) := by omega
    rw [e, pow_step hp, Int.add_emod, fermat_nat hp a, ← Int.add_emod]
theorem fermat {p : Nat} (hp : IsPr p) {a : Int} (h0 : 0 ≤ a) (hn : ¬ (p : Int) ∣ a) : a ^ (p - 2) * a % p = 1 % p := by
  obtain ⟨n, rfl⟩ : ∃ n : Nat, a = n := ⟨a.toNat, by omega⟩
  have h2 := hp.1
  have h := fermat_nat hp n
  have e : (n : Int) ^ p = (n : Int) ^ (p - 2) * n * n := by
    rw [← Int.pow_succ, ← Int.pow_succ]; congr 1; omega
  rw [e] at h
  have h3 : (p : Int) ∣ ((n : Int) ^ (p - 2) * n - 1) * n := by
    have := Int.dvd_of_emod_eq_zero (Int.emod_eq_emod_iff_emod_sub_eq_zero.1 h)
    have e2 : ((n : Int) ^ (p - 2) * n - 1) * n = (n : Int) ^ (p - 2) * n * n - n := by grind
    rw [e2]; exact this
  have h4 : (p : Int) ∣ (n : Int) ^ (p - 2) * n - 1 := by
    rw [← Int.natAbs_dvd_natAbs, Int.natAbs_mul] at h3
    rw [← Int.natAbs_dvd_natAbs]
    rcases IsPr.dvd_mul (by simpa using hp) h3 with h | h
    · exact h
    · exact absurd (Int.natAbs_dvd_natAbs.1 h) hn
  exact Int.emod_eq_emod_iff_emod_sub_eq_zero.2 (Int.emod_eq_zero_of_dvd h4)
end Go.Proofs.Ytiljppeamdoocaa
