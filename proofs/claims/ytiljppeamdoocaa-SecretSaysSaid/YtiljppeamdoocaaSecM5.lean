/- Congruences together (SUN TZU), in plain arithmetic. -/
import Derived.Test.YtiljppeamdoocaaSecM2
import Derived.Test.YtiljppeamdoocaaSecM4
import Derived.Test.YtiljppeamdoocaaSecM0
import Derived.Test.YtiljppeamdoocaaSecM1
import Derived.Maps.OwnOps
import Derived.Maps.OwnSet
import Derived.Maps.Views
import Derived.Test.YtiljppeamdoocaaSecM3
namespace Go.Proofs.Ytiljppeamdoocaa

theorem dvd_lcm_gcd {a b d : Nat} (h : d ∣ Nat.lcm a b) : d ∣ Nat.lcm (Nat.gcd a d) (Nat.gcd b d) := by
  by_cases hg0 : Nat.gcd (Nat.gcd a d) (Nat.gcd b d) = 0
  · have h1 : Nat.gcd a d = 0 := Nat.eq_zero_of_gcd_eq_zero_left hg0
    have h2 : d = 0 := Nat.eq_zero_of_gcd_eq_zero_right h1
    subst h2
    have h3 : Nat.lcm a b = 0 := Nat.eq_zero_of_zero_dvd h
    have h4 : a = 0 := by simpa using h1
    subst h4; simp
  · have hp : 0 < Nat.gcd (Nat.gcd a d) (Nat.gcd b d) := by omega
    obtain ⟨g, hg⟩ : ∃ g, Nat.gcd (Nat.gcd a d) (Nat.gcd b d) = g := ⟨_, rfl⟩
    have hga : g ∣ a := by rw [← hg]; exact Nat.dvd_trans (Nat.gcd_dvd_left _ _) (Nat.gcd_dvd_left _ _)
    have hgb : g ∣ b := by rw [← hg]; exact Nat.dvd_trans (Nat.gcd_dvd_right _ _) (Nat.gcd_dvd_left _ _)
    have hgad : g ∣ Nat.gcd a d := by rw [← hg]; exact Nat.gcd_dvd_left _ _
    have hab : d * g ∣ a * b := by
      have h1 : d * g ∣ Nat.lcm a b * Nat.gcd a b := Nat.mul_dvd_mul h (Nat.dvd_gcd hga hgb)
      rwa [Nat.mul_comm (Nat.lcm a b), Nat.gcd_mul_lcm] at h1
    have h2 : d * g ∣ Nat.gcd a d * Nat.gcd b d := by
      rw [← Nat.gcd_mul_left]
      refine Nat.dvd_gcd ?_ ?_
      · rw [← Nat.gcd_mul_right]
        exact Nat.dvd_gcd hab (Nat.mul_dvd_mul (Nat.dvd_refl d) hgb)
      · rw [Nat.mul_comm]; exact Nat.mul_dvd_mul hgad (Nat.dvd_refl d)
    rw [← Nat.gcd_mul_lcm (Nat.gcd a d), hg, Nat.mul_comm g] at h2
    exact Nat.dvd_of_mul_dvd_mul_right (by omega) h2
/-- What is told modulo what a, and b, have in common with M, is told of their lcm. -/
theorem gcd_lcm_dvd {a b M : Nat} {z : Int} (ha : (Nat.gcd a M : Int) ∣ z) (hb : (Nat.gcd b M : Int) ∣ z) : (Nat.gcd (Nat.lcm a b) M : Int) ∣ z := by
  rw [← Int.dvd_natAbs, Int.natCast_dvd_natCast] at ha hb ⊢
  have h1 := dvd_lcm_gcd (a := a) (b := b) (d := Nat.gcd (Nat.lcm a b) M) (Nat.gcd_dvd_left _ _)
  refine Nat.dvd_trans h1 (Nat.lcm_dvd ?_ ?_)
  · exact Nat.dvd_trans (Nat.dvd_gcd (Nat.gcd_dvd_left _ _) (Nat.dvd_trans (Nat.gcd_dvd_right _ _) (Nat.gcd_dvd_right _ _))) ha
  · exact Nat.dvd_trans (Nat.dvd_gcd (Nat.gcd_dvd_left _ _) (Nat.dvd_trans (Nat.gcd_dvd_right _ _) (Nat.gcd_dvd_right _ _))) hb

/-- The lcm of all moduli, from the left. A pair: what is left, the modulus. -/
def lcmF (l : List (Nat × Nat)) : Nat := l.foldl (fun m a => Nat.lcm m a.2) 1
theorem lcmF_nil : lcmF [] = 1 := rfl
theorem lcmF_snoc (l : List (Nat × Nat)) (a : Nat × Nat) : lcmF (l ++ [a]) = Nat.lcm (lcmF l) a.2 := by simp [lcmF, List.foldl_append]
theorem foldl_lcm_dvd (l : List (Nat × Nat)) (m : Nat) : m ∣ l.foldl (fun m a => Nat.lcm m a.2) m ∧ ∀ a ∈ l, a.2 ∣ l.foldl (fun m a => Nat.lcm m a.2) m := by
  induction l generalizing m with
  | nil => exact ⟨Nat.dvd_refl m, by simp⟩
  | cons b l ih =>
    obtain ⟨h1, h2⟩ := ih (Nat.lcm m b.2)
    refine ⟨Nat.dvd_trans (Nat.dvd_lcm_left _ _) h1, fun a ha => ?_⟩
    rw [List.mem_cons] at ha
    rcases ha with ha | ha
    · subst ha; exact Nat.dvd_trans (Nat.dvd_lcm_right _ _) h1
    · exact h2 a ha
theorem lcmF_dvd {l : List (Nat × Nat)} {a : Nat × Nat} (h : a ∈ l) : a.2 ∣ lcmF l := (foldl_lcm_dvd l 1).2 a h
theorem foldl_lcm_gcd {M : Nat} {z : Int} (l : List (Nat × Nat)) : ∀ (m : Nat), (Nat.gcd m M : Int) ∣ z → (∀ a ∈ l, (Nat.gcd a.2 M : Int) ∣ z) → (Nat.gcd (l.foldl (fun m a => Nat.lcm m a.2) m) M : Int) ∣ z := by
  induction l with
  | nil => intro m hm _; exact hm
  | cons b l ih =>
    intro m hm h
    exact ih _ (gcd_lcm_dvd hm (h b (List.mem_cons_self ..))) fun a ha => h a (List.mem_cons_of_mem _ ha)
theorem lcmF_gcd {M : Nat} {z : Int} (l : List (Nat × Nat)) (h : ∀ a ∈ l, (Nat.gcd a.2 M : Int) ∣ z) : (Nat.gcd (lcmF l) M : Int) ∣ z :=
  foldl_lcm_gcd l 1 (by simp) h
/-- What has been joined: n, modulo m. -/
structure Sys (l : List (Nat × Nat)) (n m : Nat) : Prop where
  mod : m = lcmF l
  lt : n < m
  res : ∀ a ∈ l, n % a.2 = a.1
theorem Sys.start : Sys [] 0 1 := ⟨rfl, by omega, by simp⟩
theorem mod_dvd {n R M : Nat} (h : n % M = R) : (M : Int) ∣ (R : Int) - n := by
  have h2 := Nat.div_add_mod n M
  rw [h] at h2
  refine ⟨-((n / M : Nat) : Int), ?_⟩
  have h3 : (n : Int) = (M : Int) * ((n / M : Nat) : Int) + R := by exact_mod_cast h2.symm
  rw [Int.mul_neg]; omega
theorem dvd_mod {n R M : Nat} (hR : R < M) (h : (M : Int) ∣ (R : Int) - n) : n % M = R := by
  have h1 : (R : Int) % M = (n : Int) % M := Int.emod_eq_emod_iff_emod_sub_eq_zero.2 (Int.emod_eq_zero_of_dvd h)
  have h2 : (R : Int) % M = R := Int.emod_eq_of_lt (by omega) (by omega)
  rw [h2] at h1
  have h3 : ((n % M : Nat) : Int) = (n : Int) % M := by push_cast; rfl
  omega
theorem crt_gcd {l : List (Nat × Nat)} {n m R M : Nat} (h : Sys l n m) (hc : ∀ a ∈ l, (Nat.gcd a.2 M : Int) ∣ (R : Int) - a.1) : (Nat.gcd m M : Int) ∣ (R : Int) - n := by
  rw [h.mod]
  apply lcmF_gcd
  intro a ha
  have h1 := mod_dvd (h.res a ha)
  have h2 : (Nat.gcd a.2 M : Int) ∣ (a.1 : Int) - n := Int.dvd_trans (Int.natCast_dvd_natCast.2 (Nat.gcd_dvd_left _ _)) h1
  have h3 := Int.dvd_add (hc a ha) h2
  have e : (R : Int) - a.1 + (a.1 - n) = R - n := by omega
  rwa [e] at h3
theorem crt_step {n m R M : Nat} (hM : 1 ≤ M) (hR : R < M) (hd : (Nat.gcd m M : Int) ∣ (R : Int) - n) : ∃ k, k < M / Nat.gcd m M ∧ (n + k * m) % M = R := by
  obtain ⟨g, hg⟩ : ∃ g, Nat.gcd m M = g := ⟨_, rfl⟩
  rw [hg] at hd ⊢
  have hgp : 0 < g := by rw [← hg]; exact Nat.gcd_pos_of_pos_right _ (by omega)
  have hgM : g ∣ M := by rw [← hg]; exact Nat.gcd_dvd_right _ _
  have hgm : g ∣ m := by rw [← hg]; exact Nat.gcd_dvd_left _ _
  obtain ⟨q, hq⟩ := hgM
  obtain ⟨r, hr⟩ := hgm
  have hMq : M / g = q := by rw [hq, Nat.mul_div_cancel_left _ hgp]
  have hq1 : 1 ≤ q := by rcases Nat.eq_zero_or_pos q with h0 | h0
                         · subst h0; omega
                         · exact h0
  obtain ⟨t, ht⟩ := hd
  obtain ⟨_, _, hb⟩ := bez_law (m : Int) (M : Int) (by omega)
  have hgI : gI (m : Int) (M : Int) = g := by unfold gI; rw [Int.gcd_natCast_natCast, hg]
  rw [hgI] at hb
  rw [hMq]
  obtain ⟨x, hx⟩ : ∃ x, bezX (m : Int) M = x := ⟨_, rfl⟩
  obtain ⟨y, hy⟩ : ∃ y, bezY (m : Int) M = y := ⟨_, rfl⟩
  rw [hx, hy] at hb
  have hk0 : 0 ≤ (x * t) % q := Int.emod_nonneg _ (by omega)
  have hk1 : (x * t) % q < q := Int.emod_lt_of_pos _ (by omega)
  obtain ⟨k, hk⟩ : ∃ k : Nat, (k : Int) = (x * t) % q := ⟨((x * t) % q).toNat, by omega⟩
  refine ⟨k, by omega, dvd_mod hR ?_⟩
  -- k = x t - q s
  have h1 := Int.emod_add_mul_ediv (x * t) q
  obtain ⟨s, hs⟩ : ∃ s, x * t / (q : Int) = s := ⟨_, rfl⟩
  rw [hs, ← hk] at h1
  have hmq : (m : Int) * q = (M : Int) * r := by
    have : m * q = M * r := by rw [hr, hq, Nat.mul_assoc, Nat.mul_assoc, Nat.mul_comm r q]
    exact_mod_cast this
  refine ⟨y * t + r * s, ?_⟩
  have e1 : (R : Int) = n + g * t := by omega
  have e2 : (k : Int) = x * t - q * s := by omega
  push_cast
  rw [e1, e2, ← hb, Int.sub_mul, Int.add_mul, Int.mul_add]
  have e3 : x * t * m = x * m * t := by rw [Int.mul_right_comm]
  have e4 : (q : Int) * s * m = (M : Int) * (r * s) := by rw [Int.mul_right_comm, Int.mul_comm (q : Int) m, hmq, Int.mul_assoc]
  have e5 : y * (M : Int) * t = M * (y * t) := by rw [Int.mul_comm y, Int.mul_assoc]
  rw [e3, e4, e5]; omega
theorem crt_conv {n m k R M : Nat} (h : (n + k * m) % M = R) : (Nat.gcd m M : Int) ∣ (R : Int) - n := by
  have h1 := mod_dvd h
  have h2 : (Nat.gcd m M : Int) ∣ (R : Int) - ((n + k * m : Nat) : Int) := Int.dvd_trans (Int.natCast_dvd_natCast.2 (Nat.gcd_dvd_right _ _)) h1
  have h3 : (Nat.gcd m M : Int) ∣ ((k * m : Nat) : Int) := Int.natCast_dvd_natCast.2 (Nat.dvd_trans (Nat.gcd_dvd_left _ _) (Nat.dvd_mul_left _ _))
  have h4 := Int.dvd_add h2 h3
  have e : (R : Int) - ((n + k * m : Nat) : Int) + ((k * m : Nat) : Int) = R - n := by push_cast; omega
  rwa [e] at h4
theorem lcm_quo (m M : Nat) : m * (M / Nat.gcd m M) = Nat.lcm m M := by
  unfold Nat.lcm
  rw [Nat.mul_div_assoc _ (Nat.gcd_dvd_right m M)]
theorem lcm_quo' (m M : Nat) : m / Nat.gcd m M * M = Nat.lcm m M := by
  unfold Nat.lcm
  rw [Nat.div_mul_right_comm (Nat.gcd_dvd_left m M)]
theorem Sys.step {l : List (Nat × Nat)} {n m k R M : Nat} (h : Sys l n m) (hk : k < M / Nat.gcd m M) (he : (n + k * m) % M = R) : Sys (l ++ [(R, M)]) (n + k * m) (m * (M / Nat.gcd m M)) := by
  refine ⟨by rw [lcmF_snoc, ← h.mod, lcm_quo], ?_, fun a ha => ?_⟩
  · have h1 := h.lt
    have h2 : (k + 1) * m ≤ (M / Nat.gcd m M) * m := Nat.mul_le_mul_right m hk
    rw [Nat.add_mul, Nat.one_mul] at h2
    rw [Nat.mul_comm m]
    omega
  · rw [List.mem_append] at ha
    rcases ha with ha | ha
    · have h1 : a.2 ∣ k * m := Nat.dvd_trans (by rw [h.mod]; exact lcmF_dvd ha) (Nat.dvd_mul_left _ _)
      obtain ⟨c, hc⟩ := h1
      rw [hc, Nat.add_mul_mod_self_left]
      exact h.res a ha
    · simp at ha; subst ha; exact he
/-- Two of the congruences are at odds. -/
def odds (a b : Nat × Nat) : Prop := ¬ (Nat.gcd a.2 b.2 : Int) ∣ (a.1 : Int) - b.1
theorem Sys.agree {l : List (Nat × Nat)} {n m : Nat} (h : Sys l n m) {a b : Nat × Nat} (ha : a ∈ l) (hb : b ∈ l) : (Nat.gcd a.2 b.2 : Int) ∣ (a.1 : Int) - b.1 := by
  have h1 : (Nat.gcd a.2 b.2 : Int) ∣ (a.1 : Int) - n := Int.dvd_trans (Int.natCast_dvd_natCast.2 (Nat.gcd_dvd_left _ _)) (mod_dvd (h.res a ha))
  have h2 : (Nat.gcd a.2 b.2 : Int) ∣ (b.1 : Int) - n := Int.dvd_trans (Int.natCast_dvd_natCast.2 (Nat.gcd_dvd_right _ _)) (mod_dvd (h.res b hb))
  have h3 := Int.dvd_sub h1 h2
  have e : (a.1 : Int) - n - (b.1 - n) = a.1 - b.1 := by omega
  rwa [e] at h3
end Go.Proofs.Ytiljppeamdoocaa
namespace Go.Proofs.Ytiljppeamdoocaa

theorem phi_mul {a b : Nat} (ha : 1 ≤ a) (hb : 1 ≤ b) (h : Nat.gcd a b = 1) : phi (a * b) = phi a * phi b := mult_coprime phiG ha hb h
/-- One step of the loop: n / P * (P - 1). -/
theorem phi_step {c P M : Nat} {V : Int} {R : Nat} (hP : 1 ≤ P) (h : (c : Int) = V * ((P ^ (M + 1) * R : Nat) : Int)) : ((c / P * (P - 1) : Nat) : Int) = V * phiG P (M + 1) * (R : Int) := by
  have e1 : (c : Int) = (P : Int) * (V * ((P ^ M * R : Nat) : Int)) := by
    rw [h, Nat.pow_succ]
    push_cast
    rw [Int.mul_left_comm (P : Int) V]
    congr 1
    rw [Int.mul_comm ((P : Int) ^ M) (P : Int), Int.mul_assoc]
  have e2 : ((c / P : Nat) : Int) = V * ((P ^ M * R : Nat) : Int) := by
    have : ((c / P : Nat) : Int) = (c : Int) / (P : Int) := by push_cast; rfl
    rw [this, e1, Int.mul_ediv_cancel_left _ (by omega)]
  have e3 : ((c / P * (P - 1) : Nat) : Int) = ((c / P : Nat) : Int) * ((P : Int) - 1) := by rw [show (P : Int) - 1 = ((P - 1 : Nat) : Int) by omega]; push_cast; rfl
  rw [e3, e2]
  unfold phiG
  rw [Nat.add_sub_cancel]
  have e4 : ((P ^ M * R : Nat) : Int) = (P : Int) ^ M * (R : Int) := by push_cast; rfl
  rw [e4, Int.mul_assoc V, Int.mul_assoc V, Int.mul_assoc, Int.mul_assoc, Int.mul_comm (R : Int)]
theorem phi_le (c P : Nat) : c / P * (P - 1) ≤ c := Nat.le_trans (Nat.mul_le_mul_left _ (Nat.sub_le _ _)) (Nat.div_mul_le_self c P)

/-- A number that has nothing in common with a product has nothing in common with its parts. -/
theorem gcd_prod {a m n : Nat} : Nat.gcd a (m * n) = 1 ↔ Nat.gcd a m = 1 ∧ Nat.gcd a n = 1 := by
  constructor
  · intro h
    exact ⟨Nat.eq_one_of_dvd_one (by rw [← h]; exact Nat.dvd_gcd (Nat.gcd_dvd_left _ _) (Nat.dvd_trans (Nat.gcd_dvd_right _ _) (Nat.dvd_mul_right _ _))),
      Nat.eq_one_of_dvd_one (by rw [← h]; exact Nat.dvd_gcd (Nat.gcd_dvd_left _ _) (Nat.dvd_trans (Nat.gcd_dvd_right _ _) (Nat.dvd_mul_left _ _)))⟩
  · rintro ⟨h1, h2⟩
    exact Nat.Coprime.mul_right h1 h2
theorem gcd_em (a : Int) (m : Nat) : Int.gcd (a % (m : Int)) (m : Int) = Int.gcd a (m : Int) := by
  apply Nat.dvd_antisymm
  · refine Int.dvd_gcd ?_ (Int.gcd_dvd_right _ _)
    have h1 := Int.gcd_dvd_left (a % (m:Int)) (m:Int)
    have h2 := Int.gcd_dvd_right (a % (m:Int)) (m:Int)
    have h3 := Int.dvd_add h1 (Int.dvd_trans h2 (Int.dvd_mul_right (m : Int) (a / (m : Int))))
    rwa [Int.emod_add_mul_ediv] at h3
  · refine Int.dvd_gcd ?_ (Int.gcd_dvd_right _ _)
    rw [Int.emod_def]
    exact Int.dvd_sub (Int.gcd_dvd_left _ _) (Int.dvd_trans (Int.gcd_dvd_right _ _) (Int.dvd_mul_right _ _))
/-- Congruent modulo both, congruent modulo the product. -/
theorem uniq2 {m n z x : Nat} (h : Nat.gcd m n = 1) (hz : z < m * n) (hx : x < m * n) (h1 : z % m = x % m) (h2 : z % n = x % n) : z = x := by
  have a1 : (m : Int) ∣ (z : Int) - x := by
    have : ((z : Int) - x) % m = 0 := Int.emod_eq_emod_iff_emod_sub_eq_zero.1 (by exact_mod_cast h1)
    exact Int.dvd_of_emod_eq_zero this
  have a2 : (n : Int) ∣ (z : Int) - x := by
    have : ((z : Int) - x) % n = 0 := Int.emod_eq_emod_iff_emod_sub_eq_zero.1 (by exact_mod_cast h2)
    exact Int.dvd_of_emod_eq_zero this
  have b1 : m ∣ ((z : Int) - x).natAbs := by rw [← Int.natCast_dvd_natCast, Int.dvd_natAbs]; exact a1
  have b2 : n ∣ ((z : Int) - x).natAbs := by rw [← Int.natCast_dvd_natCast, Int.dvd_natAbs]; exact a2
  have b3 : m * n ∣ ((z : Int) - x).natAbs := Nat.Coprime.mul_dvd_of_dvd_of_dvd h b1 b2
  have b4 : ((z : Int) - x).natAbs < m * n := by omega
  have := Nat.eq_zero_of_dvd_of_lt b3 b4
  omega
/-- An inverse modulo a product is one modulo its parts, and there is but one. -/
theorem inv_uniq {a : Int} {m : Nat} {x y : Int} (hx : x * a % m = 1 % m) (hy : y * a % m = 1 % m) : x % m = y % m := by
  have h1 : x * (y * a) % m = x % m := by rw [Int.mul_emod, hy, ← Int.mul_emod, Int.mul_one]
  have h2 : y * (x * a) % m = y % m := by rw [Int.mul_emod, hx, ← Int.mul_emod, Int.mul_one]
  rw [← h1, ← h2]
  congr 1
  rw [Int.mul_left_comm]
theorem inv_part {a z : Int} {m n : Nat} (h : z * a % ((m * n : Nat) : Int) = 1 % ((m * n : Nat) : Int)) : z * a % m = 1 % m := by
  have h1 : z * a % ((m * n : Nat) : Int) % (m : Int) = 1 % ((m * n : Nat) : Int) % (m : Int) := by rw [h]
  have hd : (m : Int) ∣ ((m * n : Nat) : Int) := ⟨n, by push_cast; rfl⟩
  rwa [Int.emod_emod_of_dvd _ hd, Int.emod_emod_of_dvd _ hd] at h1
theorem gI_a (a : Int) (m : Nat) : gI (a % (m : Int)) (m : Int) = ((Nat.gcd a.natAbs m : Nat) : Int) := by
  unfold gI
  rw [gcd_em]; rfl
end Go.Proofs.Ytiljppeamdoocaa
namespace Go.Proofs.Ytiljppeamdoocaa
open Go.RowKit

theorem gI_prime {p l : Int} (hp : IsPr p.toNat) (h0 : 0 < l) (h1 : l < p) : gI (l % p) p = 1 := by
  obtain ⟨n, rfl⟩ : ∃ n : Nat, p = n := ⟨p.toNat, by omega⟩
  rw [Int.toNat_natCast] at hp
  rw [gI_a]
  have hd1 := Nat.gcd_dvd_left l.natAbs n
  have hd2 := Nat.gcd_dvd_right l.natAbs n
  have hle := Nat.le_of_dvd (by omega) hd1
  have hpos : 0 < Nat.gcd l.natAbs n := Nat.gcd_pos_of_pos_left _ (by omega)
  rcases Nat.lt_or_ge (Nat.gcd l.natAbs n) 2 with h | h
  · have : Nat.gcd l.natAbs n = 1 := by omega
    rw [this]; rfl
  · exact absurd hd2 (hp.2 _ h (by omega))
theorem inv_of {p : Int} {g : List Int} (OG : PolOk p g) (hn : 0 < g.length) : ∃ inv, bezX (co g (g.length - 1) % p) p = inv ∧ 0 ≤ inv ∧ inv < p ∧ inv * co g (g.length - 1) % p = 1 ∧ gI (co g (g.length - 1) % p) p = 1 := by
  have h1 := OG.p1
  have hb := OG.inF.co (by omega) (g.length - 1)
  have hne : co g (g.length - 1) ≠ 0 := by
    rcases OG.trm with h | h
    · omega
    · exact h
  have hg := gI_prime OG.pr (show 0 < co g (g.length - 1) by omega) hb.2
  obtain ⟨b1, b2, b3⟩ := bez_inv (show 1 ≤ p by omega) hg
  refine ⟨_, rfl, b1, b2, ?_, hg⟩
  generalize bezX (co g (g.length - 1) % p) p = x at b3 ⊢
  rw [Int.emod_eq_of_lt hb.1 hb.2] at b3
  rw [b3]
  exact Int.emod_eq_of_lt (by omega) (by omega)
theorem divOk_of {p inv : Int} {f g : List Int} (OF : PolOk p f) (OG : PolOk p g) (hn : 0 < g.length) (hi : inv * co g (g.length - 1) % p = 1) : DivOk p inv g f := ⟨by have := OF.p1; omega, OF.inF, OG.inF, hn, hi⟩
set_option maxRecDepth 20000 in
set_option maxHeartbeats 1000000 in
theorem poly_Div_bad (p : Int) (f g : List Int) (ao bo : Option Addr) (nf ng ca cb : Nat) (w : World) (hp : (Lit.int .i64 p).wf = true) (hlf : f.length = nf) (hlg : g.length = ng) (h63 : nf ≤ 9223372036854775807) (h64 : ng ≤ 9223372036854775807)
    (hF : Hid (Reads w ao (f.map (Value.int .i64)))) (hG : Hid (Reads w bo (g.map (Value.int .i64)))) (hc : chkE p f g ≠ 0) :
    Calls Try.prog 36 #[.int .i64 p, .slice ao nf ca, .slice bo ng cb] w fun e w' => e = .returned (.tuple #[.slice none 0 0, .slice none 0 0, .int .i64 (chkE p f g)]) ∧ Below w.heap.size w w' := by
  have C1 := Lib.hid (poly_checks p f g ao bo nf ng ca cb w hp hlf hlg h63 h64 hF hG)
  obtain ⟨c, hcc⟩ : ∃ c, chkE p f g = c := ⟨_, rfl⟩
  rw [hcc] at C1 hc ⊢
  have hc0 : (c != 0) = true := by simp [hc]
  clear hp hlf hlg hc hcc
  go_enter Try.func36, Try.ntmps36
  go_wp2_with (go_at_call 97; refine C1.out.mono ?_; rintro e w' ⟨rfl, hb1⟩)
  go_ret3
  exact ⟨rfl, hb1⟩
set_option maxRecDepth 20000 in
set_option maxHeartbeats 1000000 in
theorem poly_Div_zero (p : Int) (f g : List Int) (ao bo : Option Addr) (nf ca cb : Nat) (w : World) (hp : (Lit.int .i64 p).wf = true) (hlf : f.length = nf) (hlg : g.length = 0) (h63 : nf ≤ 9223372036854775807)
    (hF : Hid (Reads w ao (f.map (Value.int .i64)))) (hG : Hid (Reads w bo (g.map (Value.int .i64)))) (hc : chkE p f g = 0) :
    Calls Try.prog 36 #[.int .i64 p, .slice ao nf ca, .slice bo 0 cb] w fun e w' => e = .returned (.tuple #[.slice none 0 0, .slice none 0 0, .int .i64 5]) ∧ Below w.heap.size w w' := by
  have C1 := Lib.hid (poly_checks p f g ao bo nf 0 ca cb w hp hlf hlg h63 (by omega) hF hG)
  rw [hc] at C1
  clear hp hlf hlg hc
  go_enter Try.func36, Try.ntmps36
  go_wp2_with (go_at_call 97; refine C1.out.mono ?_; rintro e w' ⟨rfl, hb1⟩)
  go_ret3
  exact ⟨rfl, hb1⟩
def Div3Post (p inv : Int) (f g : List Int) (w : World) (e : Ending) (w' : World) : Prop :=
  ∃ q r vq vr, (Trm q ∧ ∀ k, co q k = quo p inv g f k) ∧ (Trm r ∧ ∀ k, co r k = rdn p inv g (co f) (KOf f g) (KOf f g) k) ∧ Below w.heap.size w w' ∧ e = .returned (.tuple #[vq, vr, .int .i64 0]) ∧
    w'.ownsRow w.heap.size 3 1 vq q.length (q.map (Value.int .i64)) ∧ w'.ownsRow w.heap.size 3 1 vr r.length (r.map (Value.int .i64))
set_option maxRecDepth 20000 in
set_option maxHeartbeats 1000000 in
theorem poly_Div (p inv : Int) (f g : List Int) (ao bo : Option Addr) (nf ng ca cb : Nat) (w : World) (hp : (Lit.int .i64 p).wf = true) (hlf : f.length = nf) (hlg : g.length = ng) (hn : 0 < ng) (hnone : ao = none → nf = 0 ∧ ca = 0)
    (hF : Hid (Reads w ao (f.map (Value.int .i64)))) (hG : Hid (Reads w bo (g.map (Value.int .i64)))) (hf : polE p f = 0) (hg : polE p g = 0) (hinv : bezX (co g (g.length - 1) % p) p = inv) :
    Calls Try.prog 36 #[.int .i64 p, .slice ao nf ca, .slice bo ng cb] w (Div3Post p inv f g w) := by
  have OF := polOk_of hf
  have OG := polOk_of hg
  have hl1 := OF.len
  have hl2 := OG.len
  obtain ⟨i, i1, i2, i3, i4, i5⟩ := inv_of OG (by omega)
  rw [hinv] at i1
  subst i1
  have HD := Lib.hid (divOk_of OF OG (by omega) i4)
  have C1 := Lib.hid (poly_checks p f g ao bo nf ng ca cb w hp hlf hlg (by omega) (by omega) hF hG)
  rw [chkE_zero hf hg] at C1
  have hz : ((ng : Int) == 0) = false := by simp; omega
  have C2 := Lib.hid (fun w' (hb : Below w.heap.size w w') => poly_Divided p f g nf ng ao bo ca cb w' OF.p2 inv i2 i3 HD.out i5 hinv hlf hlg (by omega) (by omega) hnone (hF.out.below hb) (hG.out.below hb))
  clear hp hlf hlg hf hg OF OG hl1 hl2 hn i2 i3 i4 i5 hinv hnone
  go_enter Try.func36, Try.ntmps36
  go_wp2_with (first | (go_at_call 97; refine C1.out.mono ?_; rintro e w1 ⟨rfl, hb1⟩) | (go_at_call 98; refine (C2.out _ hb1).mono ?_; rintro e w2 ⟨q, r, vq, vr, hq, hr, hb2, rfl, ho1, ho2⟩))
  go_ret3
  exact ⟨q, r, vq, vr, hq, hr, hb1.trans (hb2.mono hb1.size), rfl, own_mono ho1 hb1.size, own_mono ho2 hb1.size⟩
set_option maxRecDepth 20000 in
set_option maxHeartbeats 1000000 in
theorem ref_FieldErr (p : Int) (w : World) (_h : (Lit.int .i64 p).wf = true) :
    Calls Try.prog 38 #[.int .i64 p] w fun e w' => e = .returned (.int .i64 (fldE p)) ∧ w' = w := by
  cases d1 : decide (p < 2) with
  | true =>
    have hE : Hid (fldE p = 1) := fldE_one (by simp at d1; omega)
    go_enter Try.func38, Try.ntmps38
    go_wp2_with fail
    go_ret
    exact ⟨by rw [hE.out]; rfl, rfl⟩
  | false =>
    cases d2 : decide (997 < p) with
    | true =>
      have hE : Hid (fldE p = 1) := fldE_one (by simp at d2; omega)
      go_enter Try.func38, Try.ntmps38
      go_wp2_with fail
      go_ret
      exact ⟨by rw [hE.out]; rfl, rfl⟩
    | false =>
      simp at d1 d2
      obtain ⟨n, rfl⟩ : ∃ n : Nat, p = n := ⟨p.toNat, by omega⟩
      have e1 : decide ((n : Int) < 2) = false := by simp; omega
      have e2 : decide ((997 : Int) < n) = false := by simp; omega
      have hn : n ≤ 1000000 := by omega
      cases hb : prB n with
      | false =>
        have hE : Hid (fldE (n : Int) = 1) := fldE_one (by rw [Int.toNat_natCast]; exact fun h => by rw [prB_true h.2.2] at hb; cases hb)
        have HB := Lib.hid hb
        clear hb d1 d2
        go_enter Try.func38, Try.ntmps38
        go_wp2_with (go_at_call 16; refine (ref_Prime n _ hn).mono ?_; rw [HB.out]; rintro e w' ⟨rfl, rfl⟩)
        go_ret
        exact ⟨by rw [hE.out]; rfl, rfl⟩
      | true =>
        have hE : Hid (fldE (n : Int) = 0) := fldE_zero (by omega) (by omega) (by rw [Int.toNat_natCast]; exact prB_iff.1 hb)
        have HB := Lib.hid hb
        clear hb d1 d2
        go_enter Try.func38, Try.ntmps38
        go_wp2_with (go_at_call 16; refine (ref_Prime n _ hn).mono ?_; rw [HB.out]; rintro e w' ⟨rfl, rfl⟩)
        go_ret
        exact ⟨by rw [hE.out]; rfl, rfl⟩
theorem ref_out (x p : Int) (b : Nat) (w : World) (hc : w.cell? ⟨b, 0, none⟩ = some (.int .i64 p)) :
    Calls Try.prog 101 #[.int .i64 x, .pointer (some ⟨b, 0, none⟩)] w fun e w' => e = .returned (.bool (outF p x)) ∧ w' = w := by
  go_enter Try.func101, Try.ntmps101
  unfold outF
  cases h : decide (x < 0) with
  | true =>
    go_wp2_with fail
    go_ret
    exact ⟨by simp, rfl⟩
  | false =>
    go_wp2_with fail
    go_ret
    exact ⟨by simp, rfl⟩
set_option maxRecDepth 20000 in
set_option maxHeartbeats 1000000 in
theorem ref_PolyErr (p : Int) (zs : List Int) (ao : Option Addr) (n cap : Nat) (w : World) (hp : (Lit.int .i64 p).wf = true) (hl : zs.length = n) (h63 : n ≤ 9223372036854775807) (hR : Hid (Reads w ao (zs.map (Value.int .i64)))) :
    Calls Try.prog 40 #[.int .i64 p, .slice ao n cap] w fun e w' => e = .returned (.int .i64 (polE p zs)) ∧ Below w.heap.size w w' := by
  have HL := Lib.hid hl
  have hb := Lib.hid ((Below.refl w.heap.size w).alloc (Nat.le_refl _) (.cells #[.int .i64 p] 3))
  have HR := Lib.hid (hR.out.alloc (.cells #[.int .i64 p] 3))
  have HP := Lib.hid hp
  have hc0 : Hid ((w.alloc (.cells #[.int .i64 p] 3)).cell? ⟨w.heap.size, 0, none⟩ = some (.int .i64 p)) := by show _ = _; simp [World.cell?_alloc_new]
  clear hl hp
  rcases fldE_cases p with ⟨hf, p1, p2, p3⟩ | hf
  · have HF := Lib.hid hf
    clear p3
    by_cases h40 : 40 < n
    · have hE : Hid (polE p zs = 2) := by show _ = _; unfold polE; rw [HF.out, if_neg (by omega), if_pos (by rw [HL.out]; exact h40)]
      have d1 : decide ((40 : Int) < n) = true := by simp; omega
      clear hf h40
      go_enter Try.func40, Try.ntmps40
      go_wp2_with (go_at_call 38; refine (ref_FieldErr p _ HP.out).mono ?_; rw [HF.out]; rintro e w' ⟨rfl, rfl⟩)
      go_ret
      exact ⟨by rw [hE.out]; rfl, hb.out⟩
    · have d1 : decide ((40 : Int) < n) = false := by simp; omega
      have hany : ∃ b, zs.any (outF p) = b := ⟨_, rfl⟩
      obtain ⟨b, hany⟩ := hany
      have HA := Lib.hid hany
      have hCF : Hid (Calls Try.prog 53 #[.slice ao zs.length cap, .func (.func 101) #[] #[.pointer (some ⟨w.heap.size, 0, none⟩)]] (w.alloc (.cells #[.int .i64 p] 3)) fun e w' => e = .returned (.bool (zs.any (outF p))) ∧ ∃ n, w' = (w.alloc (.cells #[.int .i64 p] 3)).drewN n) := by
        refine containsFunc_cap 101 (.pointer (some ⟨w.heap.size, 0, none⟩)) (fun x W => by go_simp) (outF p) zs ao cap _ (by rw [HL.out]; exact h63) HR ?_
        intro x hx m
        refine (ref_out x p w.heap.size ((w.alloc (.cells #[.int .i64 p] 3)).drewN m) (show World.cell? _ _ = _ from hc0.out)).mono ?_
        rintro e w' ⟨rfl, rfl⟩
        exact ⟨rfl, 0, rfl⟩
      rw [HA.out, HL.out] at hCF
      cases b with
      | true =>
        have hE : Hid (polE p zs = 1) := by show _ = _; unfold polE; rw [HF.out, if_neg (by omega), if_neg (by rw [HL.out]; exact h40), if_pos HA.out]
        clear hf h40 hany
        go_enter Try.func40, Try.ntmps40
        go_wp2_with (first | (go_at_call 38; refine (ref_FieldErr p _ HP.out).mono ?_; rw [HF.out]; rintro e w' ⟨rfl, rfl⟩) | (go_at_call 53; refine hCF.out.mono ?_; rintro e w' ⟨rfl, m, rfl⟩))
        go_ret
        exact ⟨by rw [hE.out]; rfl, below_drewN hb.out m⟩
      | false =>
        by_cases h0 : 0 < n
        · have d2 : decide ((0 : Int) < n) = true := by simp; omega
          obtain ⟨x, hx⟩ : ∃ x, co zs (n - 1) = x := ⟨_, rfl⟩
          obtain ⟨b, o, rfl, hcx⟩ := HR.out (n - 1) (.int .i64 x) (by rw [List.getElem?_map, co_some (by rw [HL.out]; omega), hx]; rfl)
          obtain ⟨j, hj⟩ : ∃ j, n - 1 = j := ⟨_, rfl⟩
          have hj2 : (n : Int) - 1 = j := by omega
          have hjl : j < n := by omega
          have hw1 : IntKind.i64.wrap ((n : Int) - 1) = j := by rw [hj2]; exact IntWalk.i64_in _ (by omega)
          have j0 : (0 : Int) ≤ j := by omega
          have j1 : (j : Int) < n := by omega
          rw [hj] at hcx
          have HX : Hid (co zs (zs.length - 1) = x) := by show _ = _; rw [HL.out]; exact hx
          cases hz : (x == 0) with
          | true =>
            have hE : Hid (polE p zs = 3) := by show _ = _; unfold polE; rw [HF.out, if_neg (by omega), if_neg (by rw [HL.out]; exact h40), if_neg (by rw [HA.out]; simp), if_pos ⟨by rw [HL.out]; exact h0, by rw [HX.out]; simpa using hz⟩]
            clear hf h40 hany hj hj2 hx
            go_enter Try.func40, Try.ntmps40
            go_wp2_with (first | (go_at_call 38; refine (ref_FieldErr p _ HP.out).mono ?_; rw [HF.out]; rintro e w' ⟨rfl, rfl⟩) | (go_at_call 53; refine hCF.out.mono ?_; rintro e w' ⟨rfl, m, rfl⟩))
            go_ret
            exact ⟨by rw [hE.out]; rfl, below_drewN hb.out m⟩
          | false =>
            have hE : Hid (polE p zs = 0) := by show _ = _; unfold polE; rw [HF.out, if_neg (by omega), if_neg (by rw [HL.out]; exact h40), if_neg (by rw [HA.out]; simp), if_neg (by rw [HX.out]; intro h; simp [h.2] at hz)]
            clear hf h40 hany hj hj2 hx
            go_enter Try.func40, Try.ntmps40
            go_wp2_with (first | (go_at_call 38; refine (ref_FieldErr p _ HP.out).mono ?_; rw [HF.out]; rintro e w' ⟨rfl, rfl⟩) | (go_at_call 53; refine hCF.out.mono ?_; rintro e w' ⟨rfl, m, rfl⟩))
            go_ret
            exact ⟨by rw [hE.out]; rfl, below_drewN hb.out m⟩
        · have hE : Hid (polE p zs = 0) := by show _ = _; unfold polE; rw [HF.out, if_neg (by omega), if_neg (by rw [HL.out]; exact h40), if_neg (by rw [HA.out]; simp), if_neg (by rw [HL.out]; omega)]
          have d2 : decide ((0 : Int) < n) = false := by simp; omega
          clear hf h40 hany
          go_enter Try.func40, Try.ntmps40
          go_wp2_with (first | (go_at_call 38; refine (ref_FieldErr p _ HP.out).mono ?_; rw [HF.out]; rintro e w' ⟨rfl, rfl⟩) | (go_at_call 53; refine hCF.out.mono ?_; rintro e w' ⟨rfl, m, rfl⟩))
          go_ret
          exact ⟨by rw [hE.out]; rfl, below_drewN hb.out m⟩
  · have HF := Lib.hid hf
    have hE : Hid (polE p zs = 1) := by show _ = _; unfold polE; rw [HF.out, if_pos rfl]
    clear hf
    go_enter Try.func40, Try.ntmps40
    go_wp2_with (go_at_call 38; refine (ref_FieldErr p _ HP.out).mono ?_; rw [HF.out]; rintro e w' ⟨rfl, rfl⟩)
    go_ret
    exact ⟨by rw [hE.out]; rfl, hb.out⟩
theorem tlen_take_succ (zs : List Int) (k : Nat) : tlen (zs.take (k + 1)) = if co zs k = 0 then tlen (zs.take k) else k + 1 := by
  split
  · rename_i h
    refine tlen_ext fun i => ?_
    rw [co_take, co_take]
    by_cases h1 : i < k
    · rw [if_pos (by omega), if_pos h1]
    · rw [if_neg h1]
      by_cases h2 : i < k + 1
      · rw [if_pos h2, show i = k by omega, h]
      · rw [if_neg h2]
  · rename_i h
    have h1 : k < tlen (zs.take (k + 1)) := tlen_gt_of (by rw [co_take, if_pos (by omega)]; exact h)
    have h2 : tlen (zs.take (k + 1)) ≤ k + 1 := tlen_le_of fun i hi => by rw [co_take, if_neg (by omega)]
    omega
set_option maxRecDepth 20000 in
set_option maxHeartbeats 1000000 in
theorem ref_Short (zs : List Int) (n : Nat) (ao : Option Addr) (cap base : Nat) (w : World) (hn : n ≤ 1000000000) (hl : zs.length = n) (hc : n ≤ cap) (hc2 : cap ≤ 9223372036854775807) (hnone : ao = none → n = 0 ∧ cap = 0) (hR : Hid (Reads w ao (zs.map (Value.int .i64)))) (hb : base ≤ w.heap.size) :
    Calls Try.prog 24 #[.slice ao n cap] w (ListPost base (trim zs) w) := by
  have HL := Lib.hid hl
  have HN := Lib.hid hnone
  have HB := Lib.hid hb
  clear hl hnone hb
  go_enter Try.func24, Try.ntmps24
  go_wp2_with fail
  go_loop [3, 8] (fun vt vi => ∃ k t : Nat, vi = .int .i64 k ∧ k ≤ n ∧ vt = .int .i64 t ∧ t ≤ k ∧ Hid (t = tlen (zs.take k))) (fun _ vi => n - (intOf vi).toNat)
  case atStart => exact ⟨0, 0, rfl, by omega, rfl, by omega, by show _ = _; rw [List.take_zero]; rfl⟩
  case round =>
    obtain ⟨k, t, rfl, hk, rfl, htk, ht⟩ := hrel
    by_cases hkn : k < n
    · obtain ⟨x, hx⟩ : ∃ x, co zs k = x := ⟨_, rfl⟩
      obtain ⟨b, o, rfl, hcx⟩ := hR.out k (.int .i64 x) (by rw [List.getElem?_map, co_some (by rw [HL.out]; omega), hx]; rfl)
      cases hz : (x != 0) with
      | true =>
        have ht2 : Hid (k + 1 = tlen (zs.take (k + 1))) := by show _ = _; rw [tlen_take_succ, if_neg (by rw [hx]; simpa using hz)]
        clear hx
        go_wp2_with fail
        go_round
        case rel => exact ⟨k + 1, k + 1, by go_num, by omega, by go_num, by omega, ht2⟩
        case measure => simp [intOf]; omega
      | false =>
        have ht2 : Hid (t = tlen (zs.take (k + 1))) := by show _ = _; rw [tlen_take_succ, if_pos (by rw [hx]; simpa using hz)]; exact ht.out
        clear hx
        go_wp2_with fail
        go_round
        case rel => exact ⟨k + 1, t, by go_num, by omega, rfl, by omega, ht2⟩
        case measure => simp [intOf]; omega
    · have hfin : Hid (t = tlen zs) := by
        show _ = _
        rw [ht.out, List.take_of_length_le (by rw [HL.out]; omega)]
      have hR2 : Hid (Reads w ao ((trim zs).map (Value.int .i64))) := reads_take hR.out _
      have hl2 : (trim zs).length = t := by rw [length_trim, hfin.out]
      have HN2 : Hid (ao = none → t = 0 ∧ cap = 0) := fun h => ⟨by have := (HN.out h).1; omega, (HN.out h).2⟩
      have t0 : (0 : Int) ≤ t := by omega
      have t1 : (t : Int) ≤ cap := by omega
      have t2 : t ≤ cap := by omega
      have htn : t ≤ n := by omega
      have hkk : k = n := by omega
      subst hkk
      go_wp2_with (go_at_call 85; refine (clone_int (trim zs) t ao cap base _ (by omega) hl2 HN2.out hR2 HB.out).mono ?_; rintro e w' ⟨v, rfl, hv⟩)
      go_ret
      exact ⟨v, rfl, hv⟩
end Go.Proofs.Ytiljppeamdoocaa
namespace Go.Proofs.Ytiljppeamdoocaa
open Go.RowKit

theorem heap_cell {W : World} {B : Nat} {cs : Array Value} {t : TypeId} {fr : Nat × Nat} (h : W.heap[B]? = some (.cells cs t fr)) (j : Nat) : W.cell? ⟨B, j, none⟩ = cs[j]? := cell_of_row W B j cs t fr h
theorem heap_frozen {W : World} {B : Nat} {cs : Array Value} {t : TypeId} (h : W.heap[B]? = some (.cells cs t (0, 0))) (j : Nat) : W.frozen? ⟨B, j, none⟩ = false := by simp [World.frozen?, h]
theorem heap_set {W : World} {B j : Nat} {cs : Array Value} {t : TypeId} {fr : Nat × Nat} (v : Value) (h : W.heap[B]? = some (.cells cs t fr)) : (W.setCell ⟨B, j, none⟩ v).heap[B]? = some (.cells (cs.setIfInBounds j v) t fr) := by
  obtain ⟨hlt, hk⟩ := Array.getElem?_eq_some_iff.1 h
  show (W.heap.modify B _)[B]? = _
  rw [Array.getElem?_eq_getElem (by rw [Array.size_modify]; exact hlt), Array.getElem_modify_self, hk]
  rfl
theorem heap_set_far {W : World} {B B' j : Nat} (v : Value) (hne : B ≠ B') : (W.setCell ⟨B, j, none⟩ v).heap[B']? = W.heap[B']? := Below.heap_setCell _ _ _ B' (fun e => hne e.symm)
theorem below_set {n₀ B j : Nat} {A W : World} (h : Below n₀ A W) (hB : n₀ ≤ B) (v : Value) : Below n₀ A (W.setCell ⟨B, j, none⟩ v) := h.setCell (p := ⟨B, j, none⟩) hB v
end Go.Proofs.Ytiljppeamdoocaa
namespace Go.Proofs.Ytiljppeamdoocaa
open Go.RowKit Go.Maps

def badP (p : Int) (z : Int × Int) : Bool := decide (z.1 < 0) || (decide (p ≤ z.1) || (decide (z.2 < 0) || decide (p ≤ z.2)))
def dupP (l : Pts) (i : Nat) (x : Int) : Bool := (l.take i).any fun y => y.1 == x
def ptsI (p : Int) (l : Pts) : Nat → Nat → Int
  | 0, _ => 0
  | n + 1, i => match l[i]? with
    | none => 0
    | some z => if badP p z = true then 1 else if dupP l i z.1 = true then 6 else ptsI p l n (i + 1)
noncomputable def ptsE (p : Int) (l : Pts) : Int := if fldE p = 1 then 1 else if 12 < l.length then 2 else ptsI p l l.length 0
theorem ptsI_step {p : Int} {l : Pts} {i : Nat} {z : Int × Int} (hz : l[i]? = some z) : ptsI p l (l.length - i) i = if badP p z = true then 1 else if dupP l i z.1 = true then 6 else ptsI p l (l.length - (i + 1)) (i + 1) := by
  have hi := (List.getElem?_eq_some_iff.1 hz).1
  obtain ⟨n, hn⟩ : ∃ n, l.length - i = n + 1 := ⟨l.length - i - 1, by omega⟩
  rw [hn, show l.length - (i + 1) = n by omega]
  rw [ptsI, hz]
theorem ptsI_end (p : Int) (l : Pts) : ptsI p l (l.length - l.length) l.length = 0 := by rw [Nat.sub_self]; rfl
/-- Points that pass. -/
structure PtsOk (p : Int) (l : Pts) : Prop where
  p1 : 2 ≤ p
  p2 : p ≤ 997
  pr : IsPr p.toNat
  len : l.length ≤ 12
  bd : ∀ (i : Nat) (z : Int × Int), l[i]? = some z → 0 ≤ z.1 ∧ z.1 < p ∧ 0 ≤ z.2 ∧ z.2 < p
  ne : ∀ (i j : Nat) (z y : Int × Int), j < i → l[i]? = some z → l[j]? = some y → y.1 ≠ z.1
theorem badP_false {p : Int} {z : Int × Int} (h : badP p z = false) : 0 ≤ z.1 ∧ z.1 < p ∧ 0 ≤ z.2 ∧ z.2 < p := by
  unfold badP at h
  simp at h
  omega
theorem dupP_iff {l : Pts} {i : Nat} {x : Int} : dupP l i x = true ↔ ∃ j y, j < i ∧ l[j]? = some y ∧ y.1 = x := by
  unfold dupP
  rw [List.any_eq_true]
  constructor
  · rintro ⟨y, hy, he⟩
    obtain ⟨j, hj⟩ := List.getElem?_of_mem hy
    rw [List.getElem?_take] at hj
    split at hj
    · exact ⟨j, y, ‹_›, hj, by simpa using he⟩
    · simp at hj
  · rintro ⟨j, y, hj, hy, he⟩
    refine ⟨y, List.mem_of_getElem? (i := j) ?_, by simpa using he⟩
    rw [List.getElem?_take, if_pos hj]; exact hy
theorem ptsI_ok {p : Int} {l : Pts} : ∀ n i, n + i = l.length → ptsI p l n i = 0 → ∀ k z, i ≤ k → l[k]? = some z → badP p z = false ∧ dupP l k z.1 = false
  | 0, i, hn, _, k, z, hk, hz => by
    have := (List.getElem?_eq_some_iff.1 hz).1
    omega
  | n + 1, i, hn, h, k, z, hk, hz => by
    obtain ⟨y, hy⟩ : ∃ y, l[i]? = some y := ⟨l[i]'(by omega), List.getElem?_eq_getElem _⟩
    have h' : (if badP p y = true then 1 else if dupP l i y.1 = true then 6 else ptsI p l n (i + 1)) = (0 : Int) := by
      rw [ptsI, hy] at h
      exact h
    split at h'
    · omega
    · rename_i hb
      split at h'
      · omega
      · rename_i hd
        by_cases he : k = i
        · subst he
          rw [hy] at hz
          cases hz
          exact ⟨by simpa using hb, by simpa using hd⟩
        · exact ptsI_ok n (i + 1) (by omega) h' k z (by omega) hz
theorem ptsOk_of {p : Int} {l : Pts} (h : ptsE p l = 0) : PtsOk p l := by
  unfold ptsE at h
  rcases fldE_cases p with ⟨h1, h2, h3, h4⟩ | h1
  · rw [h1, if_neg (by omega)] at h
    split at h
    · omega
    · rename_i hl
      have hk := ptsI_ok (p := p) (l := l) l.length 0 (by omega) h
      refine ⟨h2, h3, h4, by omega, fun i z hz => badP_false (hk i z (by omega) hz).1, fun i j z y hj hz hy he => ?_⟩
      have := (hk i z (by omega) hz).2
      rw [dupP_iff.2 ⟨j, y, hj, hy, he⟩] at this
      cases this
  · rw [h1, if_pos rfl] at h; omega
theorem bd_of_wf {x : Int} (h : (Lit.int .i64 x).wf = true) : -9223372036854775808 ≤ x ∧ x ≤ 9223372036854775807 := by
  simpa [Lit.wf, IntKind.min, IntKind.max, IntKind.signed, IntKind.bits] using h
theorem points_same (z y : Int × Int) (B : Nat) (w : World) (hB : w.heap[B]? = some (.cells #[.int .i64 z.1, .int .i64 z.2] 71 (0, 0))) :
    Calls Try.prog 103 #[pA y, .pointer (some ⟨B, 0, none⟩)] w fun e w' => e = .returned (.bool (y.1 == z.1)) ∧ Below w.heap.size w w' := by
  have c1 : (w.alloc (.cells #[.int .i64 y.1, .int .i64 y.2] 71)).cell? ⟨B, 0, none⟩ = some (.int .i64 z.1) := heap_cell (heap_alloc_old _ _ hB) 0
  have hb := Lib.hid ((Below.refl w.heap.size w).alloc (Nat.le_refl _) (.cells #[.int .i64 y.1, .int .i64 y.2] 71))
  go_enter Try.func103, Try.ntmps103
  go_wp2_with fail
  go_ret
  exact ⟨rfl, hb.out⟩
set_option maxRecDepth 100000 in
set_option maxHeartbeats 2000000 in
theorem points_Check (p : Int) (l : Pts) (n : Nat) (ao : Option Addr) (cap : Nat) (w : World) (hp : (Lit.int .i64 p).wf = true) (hl : l.length = n) (h63 : n ≤ 9223372036854775807) (hc : n ≤ cap) (hR : Hid (Reads w ao (cells2 (l.map pV)))) :
    Calls Try.prog 49 #[.int .i64 p, .slice ao n cap] w fun e w' => e = .returned (.int .i64 (ptsE p l)) ∧ Below w.heap.size w w' := by
  have HL := Lib.hid hl
  have HP := Lib.hid hp
  clear hl hp
  rcases fldE_cases p with ⟨hf, p1, p2, p3⟩ | hf
  · have HF := Lib.hid hf
    clear p3
    by_cases h12 : 12 < n
    · have hE : Hid (ptsE p l = 2) := by show _ = _; unfold ptsE; rw [HF.out, if_neg (by omega), if_pos (by rw [HL.out]; exact h12)]
      have d1 : decide ((12 : Int) < n) = true := by simp; omega
      clear hf h12
      go_enter Try.func49, Try.ntmps49
      go_wp2_with (go_at_call 37; refine (poly_Field p _ HP.out).mono ?_; rw [HF.out]; rintro e w' ⟨rfl, rfl⟩)
      go_ret
      exact ⟨by rw [hE.out]; rfl, Below.refl _ _⟩
    · have d1 : decide ((12 : Int) < n) = false := by simp; omega
      have hE : Hid (ptsE p l = ptsI p l (l.length - 0) 0) := by show _ = _; unfold ptsE; rw [HF.out, if_neg (by omega), if_neg (by rw [HL.out]; exact h12)]; rfl
      clear hf
      go_enter Try.func49, Try.ntmps49
      go_wp2_with (go_at_call 37; refine (poly_Field p _ HP.out).mono ?_; rw [HF.out]; rintro e w' ⟨rfl, rfl⟩)
      go_loopw [18] (fun vi wr => ∃ i : Nat, vi = .int .i64 i ∧ i ≤ n ∧ Hid (ptsE p l = ptsI p l (l.length - i) i) ∧ Hid (Below w'.heap.size w' wr)) (fun vi _ => n - (intOf vi).toNat)
      case atStart => exact ⟨0, rfl, by omega, hE, Below.refl _ _⟩
      case round =>
        obtain ⟨i, rfl, hin, he, hb⟩ := hrel
        by_cases hi : i < n
        · obtain ⟨z, hz⟩ : ∃ z, l[i]? = some z := ⟨l[i]'(by rw [HL.out]; exact hi), List.getElem?_eq_getElem _⟩
          obtain ⟨b, o, rfl, c1, c2⟩ := pair_cells (hR.out.below hb.out) hz
          have hst := ptsI_step (p := p) hz
          have HZ := Lib.hid hz
          have hb2 : Below w'.heap.size w' (wr.alloc (.cells #[.int .i64 z.1, .int .i64 z.2] 71)) := hb.out.trans ((Below.refl _ wr).alloc hb.out.size _)
          have HB2 := Lib.hid hb2
          have hnew : (wr.alloc (.cells #[.int .i64 z.1, .int .i64 z.2] 71)).heap[wr.heap.size]? = some (.cells #[.int .i64 z.1, .int .i64 z.2] 71 (0, 0)) := heap_alloc_new wr _
          have hR2 : Hid (Reads (wr.alloc (.cells #[.int .i64 z.1, .int .i64 z.2] 71)) (some ⟨b, o, none⟩) (cells2 ((l.take i).map pV))) := pair_take (hR.out.below hb2) i
          have CF : Hid (Calls Try.prog 51 #[.slice (some ⟨b, o, none⟩) i cap, .func (.func 103) #[] #[.pointer (some ⟨wr.heap.size, 0, none⟩)]] (wr.alloc (.cells #[.int .i64 z.1, .int .i64 z.2] 71)) fun e w' => e = .returned (.bool (dupP l i z.1)) ∧ Below (wr.alloc (.cells #[.int .i64 z.1, .int .i64 z.2] 71)).heap.size (wr.alloc (.cells #[.int .i64 z.1, .int .i64 z.2] 71)) w') := by
            refine containsFunc_ptc 103 (.pointer (some ⟨wr.heap.size, 0, none⟩)) (fun x W => by go_simp) (fun y => y.1 == z.1) (l.take i) i (some ⟨b, o, none⟩) cap _ (by rw [List.length_take, HL.out]; omega) (by omega) hR2 ?_
            intro y hy W hW
            exact points_same z y wr.heap.size W (by rw [hW.block _ (by rw [World.size_alloc]; omega)]; exact hnew)
          have i0 : (0 : Int) ≤ i := by omega
          have i1 : (i : Int) ≤ cap := by omega
          have i2 : i ≤ cap := by omega
          cases hbd : badP p z with
          | true =>
            have hE1 : Hid (ptsE p l = 1) := by show _ = _; rw [he.out, hst, if_pos hbd]
            have hs : decide (z.1 < 0) = true ∨ (decide (z.1 < 0) = false ∧ decide (p ≤ z.1) = true) ∨ (decide (z.1 < 0) = false ∧ decide (p ≤ z.1) = false ∧ decide (z.2 < 0) = true) ∨ (decide (z.1 < 0) = false ∧ decide (p ≤ z.1) = false ∧ decide (z.2 < 0) = false ∧ decide (p ≤ z.2) = true) := by
              unfold badP at hbd
              simp only [Bool.or_eq_true, decide_eq_true_eq, decide_eq_false_iff_not] at hbd ⊢
              omega
            clear hst hbd hz hnew hb2
            rcases hs with e1 | ⟨e1, e2⟩ | ⟨e1, e2, e3⟩ | ⟨e1, e2, e3, e4⟩
            all_goals
              go_wp2_with fail
              go_ret
              exact ⟨by rw [hE1.out]; rfl, HB2.out⟩
          | false =>
            have hs : decide (z.1 < 0) = false ∧ decide (p ≤ z.1) = false ∧ decide (z.2 < 0) = false ∧ decide (p ≤ z.2) = false := by
              unfold badP at hbd
              simpa using hbd
            obtain ⟨e1, e2, e3, e4⟩ := hs
            cases hd : dupP l i z.1 with
            | true =>
              have hE1 : Hid (ptsE p l = 6) := by show _ = _; rw [he.out, hst, if_neg (by rw [hbd]; simp), if_pos hd]
              rw [hd] at CF
              clear hst hbd hz hnew hb2 hd
              go_wp2_with (go_at_call 51; refine CF.out.mono ?_; rintro e w2 ⟨rfl, hb3⟩)
              go_ret
              exact ⟨by rw [hE1.out]; rfl, HB2.out.trans (hb3.mono HB2.out.size)⟩
            | false =>
              have hE1 : Hid (ptsE p l = ptsI p l (l.length - (i + 1)) (i + 1)) := by show _ = _; rw [he.out, hst, if_neg (by rw [hbd]; simp), if_neg (by rw [hd]; simp)]
              rw [hd] at CF
              clear hst hbd hz hnew hb2 hd
              go_wp2_with (go_at_call 51; refine CF.out.mono ?_; rintro e w2 ⟨rfl, hb3⟩)
              have HB3 := Lib.hid (HB2.out.trans (hb3.mono HB2.out.size))
              clear hb3
              go_roundw
              case rel => exact ⟨i + 1, by go_num, by omega, hE1, HB3⟩
              case measure => simp [intOf]; omega
        · have hE1 : Hid (ptsE p l = 0) := by
            show _ = _
            rw [he.out, show i = l.length by rw [HL.out]; omega]; exact ptsI_end p l
          go_wp2_with fail
          go_ret
          exact ⟨by rw [hE1.out]; rfl, hb.out⟩
  · have HF := Lib.hid hf
    have hE : Hid (ptsE p l = 1) := by show _ = _; unfold ptsE; rw [HF.out, if_pos rfl]
    clear hf
    go_enter Try.func49, Try.ntmps49
    go_wp2_with (go_at_call 37; refine (poly_Field p _ HP.out).mono ?_; rw [HF.out]; rintro e w' ⟨rfl, rfl⟩)
    go_ret
    exact ⟨by rw [hE.out]; rfl, Below.refl _ _⟩
end Go.Proofs.Ytiljppeamdoocaa
namespace Go.Proofs.Ytiljppeamdoocaa
open Go.RowKit

def plusS (p : Int) (f : List Int) (b : Int) (g : List Int) (high j k : Nat) : Int := if high ≤ k ∧ k < high + j then (co f k + b * co g (k - high)) % p else co f k
theorem plusS_zero (p : Int) (f : List Int) (b : Int) (g : List Int) (high k : Nat) : plusS p f b g high 0 k = co f k := by unfold plusS; rw [if_neg (by omega)]
theorem plusS_step (p : Int) (f : List Int) (b : Int) (g : List Int) (high j k : Nat) : plusS p f b g high (j + 1) k = if k = high + j then (co f (high + j) + b * co g j) % p else plusS p f b g high j k := by
  unfold plusS
  by_cases h : k = high + j
  · subst h; rw [if_pos rfl, if_pos (by omega), Nat.add_sub_cancel_left]
  · rw [if_neg h]
    by_cases h2 : high ≤ k ∧ k < high + j
    · rw [if_pos h2, if_pos (by omega)]
    · rw [if_neg h2, if_neg (by omega)]
theorem plusS_full {p : Int} {f g : List Int} (hf : InF p f) (hp : 0 < p) (b : Int) (high k : Nat) : plusS p f b g high g.length k = (co f k + b * sh g high k) % p := by
  unfold plusS
  by_cases h : high ≤ k ∧ k < high + g.length
  · rw [if_pos h]
    unfold sh
    rw [if_pos h.1]
  · rw [if_neg h]
    have : sh g high k = 0 := by
      rcases Nat.lt_or_ge k high with h2 | h2
      · exact sh_lt g h2
      · exact sh_ge g (by omega)
    rw [this, Int.mul_zero, Int.add_zero, hf.mod hp]
set_option maxRecDepth 100000 in
set_option maxHeartbeats 4000000 in
theorem ref_Plus (p : Int) (f : List Int) (by_ : Int) (g : List Int) (high : Nat) (nf ng : Nat) (ao bo : Option Addr) (ca cb : Nat) (w : World) (hp : 2 ≤ p) (hp2 : p ≤ 997) (hby : -1000000 ≤ by_) (hby2 : by_ ≤ 1000000) (hlf : f.length = nf) (hlg : g.length = ng) (hnf : nf ≤ 1000000) (hng : ng ≤ 1000000) (hhi : high ≤ 1000000)
    (hf : Hid (InF p f)) (hg : Hid (InF p g)) (hnone : ao = none → nf = 0 ∧ ca = 0) (hF : Hid (Reads w ao (f.map (Value.int .i64)))) (hG : Hid (Reads w bo (g.map (Value.int .i64)))) :
    Calls Try.prog 42 #[.int .i64 p, .slice ao nf ca, .int .i64 by_, .slice bo ng cb, .int .i64 high] w (PolPost w.heap.size p (fun k => co f k + by_ * sh g high k) w) := by
  have HLF := Lib.hid hlf
  have HLG := Lib.hid hlg
  have CC := Lib.hid (clone_int f nf ao ca w.heap.size w (by omega) hlf hnone hF (Nat.le_refl _))
  obtain ⟨N, hN⟩ : ∃ N, ng + high = N := ⟨_, rfl⟩
  have hNi : (ng : Int) + high = (N : Int) := by omega
  have wN : IntKind.i64.wrap (N : Int) = N := IntWalk.i64_in _ (by omega)
  have HNe := Lib.hid hN
  have hNb : N ≤ 2000000 := by omega
  clear hlf hlg hnone hN
  go_enter Try.func42, Try.ntmps42
  go_wp2_with (go_at_call 85; refine CC.out.mono ?_; rintro e w1 ⟨v, rfl, hown, hb1⟩)
  have hO0 : Hid (w1.ownsRow w.heap.size 3 1 v nf (rowF nf (iV (co f)))) := by
    show World.ownsRow _ _ _ _ _ _ _
    rw [map_iV, HLF.out] at hown; exact hown
  have HB0 := Lib.hid hb1
  clear hown hb1
  go_loopw [11] (fun vv wr => ∃ m : Nat, nf ≤ m ∧ m ≤ max nf N ∧ Hid (wr.ownsRow w.heap.size 3 1 vv m (rowF m (iV (co f)))) ∧ Hid (Below w.heap.size w wr)) (fun vv _ => match vv with | .slice _ m _ => N - m | _ => 0)
  case atStart => exact ⟨nf, Nat.le_refl _, by omega, hO0, HB0⟩
  case round =>
    obtain ⟨m, hm1, hm2, hO, hb⟩ := hrel
    obtain ⟨oo, cc, hv, hRr, hrn, hc1, hc2⟩ := own_data hO.out
    by_cases hmN : m < N
    · have d1 : decide ((m : Int) < N) = true := by simp; omega
      have hO' := hO
      rw [hv] at hO'
      rw [hv]
      go_wp2_with (at_builtin; go_must (refine app_one rfl (.tmp 23) (.tmp 24) _ rfl w.heap.size 3 _ 1 8 Try.underlying24 intRow _ m (rowF m (iV (co f))) (by rfl) hO'.out [.int .i64 0] (by rfl) rfl (by intro u hu; simp at hu; subst hu; rfl) (by unfold maxLen; omega) (by omega) hb.out.size ?_); intro v2 w2 hown2 hgr2 hb3)
      have hO3 : Hid (w2.ownsRow w.heap.size 3 1 v2 (m + 1) (rowF (m + 1) (iV (co f)))) := by
        show World.ownsRow _ _ _ _ _ _ _
        rw [rowF_succ]
        have : iV (co f) m = .int .i64 0 := by unfold iV; rw [co_out (by rw [HLF.out]; exact hm1)]
        rw [this]; exact hown2
      have hb4 := Lib.hid (hb.out.trans hb3)
      obtain ⟨o3, c3, hv3, _, _, _, _⟩ := own_data hown2
      subst hv3
      clear hown2 hgr2 hb3
      go_roundw
      case rel => exact ⟨m + 1, by omega, by omega, hO3, hb4⟩
      case measure => simp; omega
    · have d1 : decide ((m : Int) < N) = false := by simp; omega
      subst hv
      have hmm : N ≤ m := by omega
      go_wp2_with fail
      have hO1 : Hid (wr.ownsRow w.heap.size 3 1 (.slice oo m cc) m (rowF m (iV (plusS p f by_ g high 0)))) := by
        show World.ownsRow _ _ _ _ _ _ _
        rw [rowF_congr (g := iV (co f)) fun k _ => by unfold iV; rw [plusS_zero]]; exact hO.out
      clear hRr hO
      go_loopw [28] (fun vx wi => ∃ j : Nat, vx = .int .i64 j ∧ j ≤ ng ∧ Hid (wi.ownsRow w.heap.size 3 1 (.slice oo m cc) m (rowF m (iV (plusS p f by_ g high j)))) ∧ Hid (Below w.heap.size w wi)) (fun vx _ => ng - (intOf vx).toNat)
      case atStart => exact ⟨0, rfl, by omega, hO1, hb⟩
      case round =>
        obtain ⟨j, rfl, hjn, hO2, hb2⟩ := hrel
        by_cases hj1 : j < ng
        · obtain ⟨G, hoo⟩ : ∃ G, oo = some ⟨G, 0, none⟩ := by
            obtain ⟨G, c5, hv5⟩ := own_form hO2.out (by
              intro h
              have := congrArg List.length h
              rw [rowF_length, List.length_nil] at this
              have := HNe.out
              omega)
            injection hv5 with e1 e2 e3
            exact ⟨G, e1⟩
          subst hoo
          have hO2' : Hid (Own wr w.heap.size 3 G m cc (iV (plusS p f by_ g high j))) := hO2
          obtain ⟨b, hbj⟩ : ∃ b, co g j = b := ⟨_, rfl⟩
          obtain ⟨b2, o2, rfl, c2⟩ := (hG.out.below hb2.out) j (.int .i64 b) (by rw [List.getElem?_map, co_some (by rw [HLG.out]; exact hj1), hbj]; rfl)
          have hbb := hg.out.co (by omega) j
          rw [hbj] at hbb
          obtain ⟨i, hi⟩ : ∃ i, high + j = i := ⟨_, rfl⟩
          have hii : (j : Int) + high = i := by omega
          have him : i < m := by have := HNe.out; omega
          have i0 : (0 : Int) ≤ i := by omega
          have i1 : (i : Int) < m := by omega
          have wi1 : IntKind.i64.wrap (i : Int) = i := IntWalk.i64_in _ (by omega)
          obtain ⟨s, hs⟩ : ∃ s, co f i = s := ⟨_, rfl⟩
          have hsb := hf.out.co (by omega) i
          rw [hs] at hsb
          have hat : plusS p f by_ g high j i = s := by unfold plusS; rw [if_neg (by omega), hs]
          have c3 := hO2'.out.cell him
          have f3 := hO2'.out.frozen i
          unfold iV at c3
          rw [hat] at c3
          have hx : -1000000000 ≤ by_ * b ∧ by_ * b ≤ 1000000000 := by
            have h1 : by_ * b ≤ 1000000 * b := Int.mul_le_mul_of_nonneg_right hby2 hbb.1
            have h2 : (-1000000) * b ≤ by_ * b := Int.mul_le_mul_of_nonneg_right hby hbb.1
            omega
          obtain ⟨x, hxe⟩ : ∃ x, by_ * b = x := ⟨_, rfl⟩
          rw [hxe] at hx
          have wx : IntKind.i64.wrap x = x := IntWalk.i64_in _ (by omega)
          have ws : IntKind.i64.wrap (s + x) = s + x := IntWalk.i64_in _ (by omega)
          obtain ⟨r, hr⟩ : ∃ r, (s + x) % p = r := ⟨_, rfl⟩
          have CM := Lib.hid (fun w => ref_mod (s + x) p w (by omega) (by omega) (by omega) (by omega))
          rw [hr] at CM
          have HI := Lib.hid hi
          have HS : Hid (co f i = s) := hs
          have HBJ := Lib.hid hbj
          clear hs hbj hat hi
          go_wp2_with (go_at_call 102; refine (CM.out _).mono ?_; rintro e w' ⟨rfl, n3, rfl⟩; have f4 : (wr.drewN n3).frozen? ⟨G, i, none⟩ = false := f3; have c4 : (wr.drewN n3).cell? ⟨G, i, none⟩ = some (.int .i64 s) := c3)
          have st := (hO2'.out.drewN n3).store i (.int .i64 r)
          have hO3 : Hid (World.ownsRow ((wr.drewN n3).setCell ⟨G, i, none⟩ (.int .i64 r)) w.heap.size 3 1 (.slice (some ⟨G, 0, none⟩) m cc) m (rowF m (iV (plusS p f by_ g high (j + 1))))) := st.1.congr fun k _ => by
            unfold iV
            rw [plusS_step, HI.out]
            by_cases hk : k = i
            · subst hk; rw [if_pos rfl, if_pos rfl, HS.out, HBJ.out, hxe, hr]
            · rw [if_neg hk, if_neg hk]
          have hb3 := Lib.hid ((hO2'.out.drewN n3).belowStore (below_drewN hb2.out n3) (Nat.le_refl _) i (.int .i64 r))
          clear st
          go_roundw
          case rel => exact ⟨j + 1, by go_num, by omega, hO3, hb3⟩
          case measure => simp [intOf]; omega
        · have hjg : j = g.length := by rw [HLG.out]; omega
          have hR : Hid (Reads wr oo ((mkL m fun k => (co f k + by_ * sh g high k) % p).map (Value.int .i64))) := by
            obtain ⟨a2, c6, hv6, hR6, _⟩ := own_data hO2.out
            injection hv6 with e1 e2 e3
            show Reads _ _ _
            rw [map_mkL, e1]
            rw [hjg] at hR6
            rw [rowF_congr (g := iV (plusS p f by_ g high g.length)) fun k _ => by unfold iV; rw [plusS_full hf.out (by omega)]]
            exact hR6
          have hpol : Hid (IsPol p (fun k => co f k + by_ * sh g high k) (trim (mkL m fun k => (co f k + by_ * sh g high k) % p))) := isPol_trim fun k => by
            rw [co_mkL]
            split
            · rfl
            · rename_i hk
              rw [co_out (f := f) (by rw [HLF.out]; omega), sh_ge g (by have := HNe.out; rw [HLG.out]; omega), Int.mul_zero]; simp
          clear hjg
          go_wp2_with (go_at_call 24; refine (ref_Short (mkL m fun k => (co f k + by_ * sh g high k) % p) m oo cc w.heap.size _ (by omega) (mkL_length _ _) hc1 hc2 hrn hR hb2.out.size).mono ?_; rintro e w' ⟨v, rfl, hv1, hv2⟩)
          go_ret
          exact ⟨_, hpol.out, v, rfl, hv1, hb2.out.trans (Below.mono hv2 (Nat.le_refl _))⟩
theorem cvn_cong (f g : List Int) (i k : Nat) {p : Int} {h : List Int} (hh : ∀ k, co h k = cvn f g i k % p) : (co h k + co f i * sh g i k) % p = cvn f g (i + 1) k % p := by
  rw [hh, Int.emod_add_emod]; rfl
set_option maxRecDepth 100000 in
set_option maxHeartbeats 4000000 in
theorem ref_Product (p : Int) (f g : List Int) (nf ng : Nat) (ao bo : Option Addr) (ca cb : Nat) (w : World) (hp : 2 ≤ p) (hp2 : p ≤ 997) (hlf : f.length = nf) (hlg : g.length = ng) (hnf : nf ≤ 100000) (hng : ng ≤ 100000)
    (hf : Hid (InF p f)) (hg : Hid (InF p g)) (hF : Hid (Reads w ao (f.map (Value.int .i64)))) (hG : Hid (Reads w bo (g.map (Value.int .i64)))) :
    Calls Try.prog 43 #[.int .i64 p, .slice ao nf ca, .slice bo ng cb] w (PolPost w.heap.size p (conv f g) w) := by
  have HLF := Lib.hid hlf
  have HLG := Lib.hid hlg
  clear hlf hlg
  go_enter Try.func43, Try.ntmps43
  go_wp2_with fail
  go_loopw [7, 12] (fun vv vx wr => ∃ (i : Nat) (h : List Int), vx = .int .i64 i ∧ i ≤ nf ∧ Hid (IsPol p (cvn f g i) h) ∧ Hid (wr.ownsRow w.heap.size 3 1 vv h.length (h.map (Value.int .i64))) ∧ Hid (Below w.heap.size w wr)) (fun _ vx _ => nf - (intOf vx).toNat)
  case atStart => exact ⟨0, [], rfl, by omega, isPol_nil fun k => rfl, World.ownsRow_nil _ _ _ _, Below.refl _ _⟩
  case round =>
    obtain ⟨i, h, rfl, hin, hpol, hO, hb⟩ := hrel
    by_cases hi1 : i < nf
    · obtain ⟨a, ha⟩ : ∃ a, co f i = a := ⟨_, rfl⟩
      obtain ⟨b1, o1, rfl, c1⟩ := (hF.out.below hb.out) i (.int .i64 a) (by rw [List.getElem?_map, co_some (by rw [HLF.out]; exact hi1), ha]; rfl)
      have hab := hf.out.co (by omega) i
      rw [ha] at hab
      obtain ⟨oo, cc, hv, hRr, hrn, hc1, hc2⟩ := own_data hO.out
      have hlen : h.length ≤ i + ng := hpol.out.len fun k hk => by rw [cvn_top f g i k (by rw [HLG.out]; omega), Int.zero_emod]
      obtain ⟨nh, hnh⟩ : ∃ nh, h.length = nh := ⟨_, rfl⟩
      rw [hnh] at hv hrn hlen
      have HA := Lib.hid ha
      have HNh := Lib.hid hnh
      have CP := Lib.hid (ref_Plus p h a g i nh ng oo bo cc cb wr hp hp2 (by omega) (by omega) hnh HLG.out (by omega) (by omega) (by omega) (hpol.out.inF (by omega)) hg hrn hRr (hG.out.below hb.out))
      subst hv
      clear hnh ha hRr
      go_wp2_with (go_at_call 42; refine CP.out.mono ?_; rintro e w' ⟨h2, hpol2, v2, rfl, hv1, hv2⟩)
      have HP2 : Hid (IsPol p (cvn f g (i + 1)) h2) := ⟨hpol2.1, fun k => by rw [hpol2.2 k, ← HA.out]; exact cvn_cong f g i k hpol.out.2⟩
      have HV1 := Lib.hid (own_mono hv1 hb.out.size)
      have HB2 := Lib.hid (hb.out.trans (hv2.mono hb.out.size))
      clear hpol2 hv1 hv2
      go_roundw
      case rel => exact ⟨i + 1, h2, by go_num, by omega, HP2, HV1, HB2⟩
      case measure => simp [intOf]; omega
    · have hif : i = f.length := by rw [HLF.out]; omega
      have hfin : Hid (PolPost w.heap.size p (conv f g) w (.returned u7) wr) := ⟨h, by rw [hif] at hpol; exact hpol.out, _, rfl, hO.out, hb.out⟩
      clear hif
      go_wp2_with fail
      go_ret
      exact hfin.out
end Go.Proofs.Ytiljppeamdoocaa
