/- Congruences together (SUN TZU), in plain arithmetic. -/
import Derived.Test.YtmeffbooabionaaIrM16
import Derived.Test.YtmeffbooabionaaIrM23
set_option linter.unusedVariables false
set_option linter.unusedSimpArgs false
namespace Go.Proofs.Ytmeffbooabionaa

theorem dvd_lcm_gcd {a b d : Nat} (h : d ∣ Nat.lcm a b) : d ∣ Nat.lcm (Nat.gcd a d) (Nat.gcd b d) := by
  by_cases hg0 : Nat.gcd (Nat.gcd a d) (Nat.gcd b d) = 0
  · have h1 : Nat.gcd a d = 0 := Nat.eq_zero_of_gcd_eq_zero_left hg0
    have h2 : d = 0 := Nat.eq_zero_of_gcd_eq_zero_right h1
    subst h2
    have h3 : Nat.lcm a b = 0 := Nat.eq_zero_of_zero_dvd h
    have h4 : a = 0 := by simpa using h1
    subst h4; simp
  · have hp : 0 < Nat.gcd (Nat.gcd a d) (Nat.gcd b d) := by omega
    obtain ⟨g, hg⟩ : ∃ g, Nat.gcd (Nat.gcd a d) (Nat.gcd b d) = g := ⟨_, rfl⟩
    have hga : g ∣ a := by rw [← hg]; exact Nat.dvd_trans (Nat.gcd_dvd_left _ _) (Nat.gcd_dvd_left _ _)
    have hgb : g ∣ b := by rw [← hg]; exact Nat.dvd_trans (Nat.gcd_dvd_right _ _) (Nat.gcd_dvd_left _ _)
    have hgad : g ∣ Nat.gcd a d := by rw [← hg]; exact Nat.gcd_dvd_left _ _
    have hab : d * g ∣ a * b := by
      have h1 : d * g ∣ Nat.lcm a b * Nat.gcd a b := Nat.mul_dvd_mul h (Nat.dvd_gcd hga hgb)
      rwa [Nat.mul_comm (Nat.lcm a b), Nat.gcd_mul_lcm] at h1
    have h2 : d * g ∣ Nat.gcd a d * Nat.gcd b d := by
      rw [← Nat.gcd_mul_left]
      refine Nat.dvd_gcd ?_ ?_
      · rw [← Nat.gcd_mul_right]
        exact Nat.dvd_gcd hab (Nat.mul_dvd_mul (Nat.dvd_refl d) hgb)
      · rw [Nat.mul_comm]; exact Nat.mul_dvd_mul hgad (Nat.dvd_refl d)
    rw [← Nat.gcd_mul_lcm (Nat.gcd a d), hg, Nat.mul_comm g] at h2
    exact Nat.dvd_of_mul_dvd_mul_right (by omega) h2
/-- What is told modulo what a, and b, have in common with M, is told of their lcm. -/
theorem gcd_lcm_dvd {a b M : Nat} {z : Int} (ha : (Nat.gcd a M : Int) ∣ z) (hb : (Nat.gcd b M : Int) ∣ z) : (Nat.gcd (Nat.lcm a b) M : Int) ∣ z := by
  rw [← Int.dvd_natAbs, Int.natCast_dvd_natCast] at ha hb ⊢
  have h1 := dvd_lcm_gcd (a := a) (b := b) (d := Nat.gcd (Nat.lcm a b) M) (Nat.gcd_dvd_left _ _)
  refine Nat.dvd_trans h1 (Nat.lcm_dvd ?_ ?_)
  · exact Nat.dvd_trans (Nat.dvd_gcd (Nat.gcd_dvd_left _ _) (Nat.dvd_trans (Nat.gcd_dvd_right _ _) (Nat.gcd_dvd_right _ _))) ha
  · exact Nat.dvd_trans (Nat.dvd_gcd (Nat.gcd_dvd_left _ _) (Nat.dvd_trans (Nat.gcd_dvd_right _ _) (Nat.gcd_dvd_right _ _))) hb

/-- The lcm of all moduli, from the left. A pair: what is left, the modulus. -/
def lcmF (l : List (Nat × Nat)) : Nat := l.foldl (fun m a => Nat.lcm m a.2) 1
theorem lcmF_nil : lcmF [] = 1 := rfl
theorem lcmF_snoc (l : List (Nat × Nat)) (a : Nat × Nat) : lcmF (l ++ [a]) = Nat.lcm (lcmF l) a.2 := by simp [lcmF, List.foldl_append]
theorem foldl_lcm_dvd (l : List (Nat × Nat)) (m : Nat) : m ∣ l.foldl (fun m a => Nat.lcm m a.2) m ∧ ∀ a ∈ l, a.2 ∣ l.foldl (fun m a => Nat.lcm m a.2) m := by
  induction l generalizing m with
  | nil => exact ⟨Nat.dvd_refl m, by simp⟩
  | cons b l ih =>
    obtain ⟨h1, h2⟩ := ih (Nat.lcm m b.2)
    refine ⟨Nat.dvd_trans (Nat.dvd_lcm_left _ _) h1, fun a ha => ?_⟩
    rw [List.mem_cons] at ha
    rcases ha with ha | ha
    · subst ha; exact Nat.dvd_trans (Nat.dvd_lcm_right _ _) h1
    · exact h2 a ha
theorem lcmF_dvd {l : List (Nat × Nat)} {a : Nat × Nat} (h : a ∈ l) : a.2 ∣ lcmF l := (foldl_lcm_dvd l 1).2 a h
theorem foldl_lcm_gcd {M : Nat} {z : Int} (l : List (Nat × Nat)) : ∀ (m : Nat), (Nat.gcd m M : Int) ∣ z → (∀ a ∈ l, (Nat.gcd a.2 M : Int) ∣ z) → (Nat.gcd (l.foldl (fun m a => Nat.lcm m a.2) m) M : Int) ∣ z := by
  induction l with
  | nil => intro m hm _; exact hm
  | cons b l ih =>
    intro m hm h
    exact ih _ (gcd_lcm_dvd hm (h b (List.mem_cons_self ..))) fun a ha => h a (List.mem_cons_of_mem _ ha)
theorem lcmF_gcd {M : Nat} {z : Int} (l : List (Nat × Nat)) (h : ∀ a ∈ l, (Nat.gcd a.2 M : Int) ∣ z) : (Nat.gcd (lcmF l) M : Int) ∣ z :=
  foldl_lcm_gcd l 1 (by simp) h
/-- What has been joined: n, modulo m. -/
structure Sys (l : List (Nat × Nat)) (n m : Nat) : Prop where
  mod : m = lcmF l
  lt : n < m
  res : ∀ a ∈ l, n % a.2 = a.1
theorem Sys.start : Sys [] 0 1 := ⟨rfl, by omega, by simp⟩
theorem mod_dvd {n R M : Nat} (h : n % M = R) : (M : Int) ∣ (R : Int) - n := by
  have h2 := Nat.div_add_mod n M
  rw [h] at h2
  refine ⟨-((n / M : Nat) : Int), ?_⟩
  have h3 : (n : Int) = (M : Int) * ((n / M : Nat) : Int) + R := by exact_mod_cast h2.symm
  rw [Int.mul_neg]; omega
theorem dvd_mod {n R M : Nat} (hR : R < M) (h : (M : Int) ∣ (R : Int) - n) : n % M = R := by
  have h1 : (R : Int) % M = (n : Int) % M := Int.emod_eq_emod_iff_emod_sub_eq_zero.2 (Int.emod_eq_zero_of_dvd h)
  have h2 : (R : Int) % M = R := Int.emod_eq_of_lt (by omega) (by omega)
  rw [h2] at h1
  have h3 : ((n % M : Nat) : Int) = (n : Int) % M := by push_cast; rfl
  omega
theorem crt_gcd {l : List (Nat × Nat)} {n m R M : Nat} (h : Sys l n m) (hc : ∀ a ∈ l, (Nat.gcd a.2 M : Int) ∣ (R : Int) - a.1) : (Nat.gcd m M : Int) ∣ (R : Int) - n := by
  rw [h.mod]
  apply lcmF_gcd
  intro a ha
  have h1 := mod_dvd (h.res a ha)
  have h2 : (Nat.gcd a.2 M : Int) ∣ (a.1 : Int) - n := Int.dvd_trans (Int.natCast_dvd_natCast.2 (Nat.gcd_dvd_left _ _)) h1
  have h3 := Int.dvd_add (hc a ha) h2
  have e : (R : Int) - a.1 + (a.1 - n) = R - n := by omega
  rwa [e] at h3
theorem crt_step {n m R M : Nat} (hM : 1 ≤ M) (hR : R < M) (hd : (Nat.gcd m M : Int) ∣ (R : Int) - n) : ∃ k, k < M / Nat.gcd m M ∧ (n + k * m) % M = R := by
  obtain ⟨g, hg⟩ : ∃ g, Nat.gcd m M = g := ⟨_, rfl⟩
  rw [hg] at hd ⊢
  have hgp : 0 < g := by rw [← hg]; exact Nat.gcd_pos_of_pos_right _ (by omega)
  have hgM : g ∣ M := by rw [← hg]; exact Nat.gcd_dvd_right _ _
  have hgm : g ∣ m := by rw [← hg]; exact Nat.gcd_dvd_left _ _
  obtain ⟨q, hq⟩ := hgM
  obtain ⟨r, hr⟩ := hgm
  have hMq : M / g = q := by rw [hq, Nat.mul_div_cancel_left _ hgp]
  have hq1 : 1 ≤ q := by rcases Nat.eq_zero_or_pos q with h0 | h0
                         · subst h0; omega
                         · exact h0
  obtain ⟨t, ht⟩ := hd
  obtain ⟨_, _, hb⟩ := bez_law (m : Int) (M : Int) (by omega)
  have hgI : gI (m : Int) (M : Int) = g := by unfold gI; rw [Int.gcd_natCast_natCast, hg]
  rw [hgI] at hb
  rw [hMq]
  obtain ⟨x, hx⟩ : ∃ x, bezX (m : Int) M = x := ⟨_, rfl⟩
  obtain ⟨y, hy⟩ : ∃ y, bezY (m : Int) M = y := ⟨_, rfl⟩
  rw [hx, hy] at hb
  have hk0 : 0 ≤ (x * t) % q := Int.emod_nonneg _ (by omega)
  have hk1 : (x * t) % q < q := Int.emod_lt_of_pos _ (by omega)
  obtain ⟨k, hk⟩ : ∃ k : Nat, (k : Int) = (x * t) % q := ⟨((x * t) % q).toNat, by omega⟩
  refine ⟨k, by omega, dvd_mod hR ?_⟩
  -- k = x t - q s
  have h1 := Int.emod_add_mul_ediv (x * t) q
  obtain ⟨s, hs⟩ : ∃ s, x * t / (q : Int) = s := ⟨_, rfl⟩
  rw [hs, ← hk] at h1
  have hmq : (m : Int) * q = (M : Int) * r := by
    have : m * q = M * r := by rw [hr, hq, Nat.mul_assoc, Nat.mul_assoc, Nat.mul_comm r q]
    exact_mod_cast this
  refine ⟨y * t + r * s, ?_⟩
  have e1 : (R : Int) = n + g * t := by omega
  have e2 : (k : Int) = x * t - q * s := by omega
  push_cast
  rw [e1, e2, ← hb, Int.sub_mul, Int.add_mul, Int.mul_add]
  have e3 : x * t * m = x * m * t := by rw [Int.mul_right_comm]
  have e4 : (q : Int) * s * m = (M : Int) * (r * s) := by rw [Int.mul_right_comm, Int.mul_comm (q : Int) m, hmq, Int.mul_assoc]
  have e5 : y * (M : Int) * t = M * (y * t) := by rw [Int.mul_comm y, Int.mul_assoc]
  rw [e3, e4, e5]; omega
theorem crt_conv {n m k R M : Nat} (h : (n + k * m) % M = R) : (Nat.gcd m M : Int) ∣ (R : Int) - n := by
  have h1 := mod_dvd h
  have h2 : (Nat.gcd m M : Int) ∣ (R : Int) - ((n + k * m : Nat) : Int) := Int.dvd_trans (Int.natCast_dvd_natCast.2 (Nat.gcd_dvd_right _ _)) h1
  have h3 : (Nat.gcd m M : Int) ∣ ((k * m : Nat) : Int) := Int.natCast_dvd_natCast.2 (Nat.dvd_trans (Nat.gcd_dvd_left _ _) (Nat.dvd_mul_left _ _))
  have h4 := Int.dvd_add h2 h3
  have e : (R : Int) - ((n + k * m : Nat) : Int) + ((k * m : Nat) : Int) = R - n := by push_cast; omega
  rwa [e] at h4
theorem lcm_quo (m M : Nat) : m * (M / Nat.gcd m M) = Nat.lcm m M := by
  unfold Nat.lcm
  rw [Nat.mul_div_assoc _ (Nat.gcd_dvd_right m M)]
theorem lcm_quo' (m M : Nat) : m / Nat.gcd m M * M = Nat.lcm m M := by
  unfold Nat.lcm
  rw [Nat.div_mul_right_comm (Nat.gcd_dvd_left m M)]
theorem Sys.step {l : List (Nat × Nat)} {n m k R M : Nat} (h : Sys l n m) (hk : k < M / Nat.gcd m M) (he : (n + k * m) % M = R) : Sys (l ++ [(R, M)]) (n + k * m) (m * (M / Nat.gcd m M)) := by
  refine ⟨by rw [lcmF_snoc, ← h.mod, lcm_quo], ?_, fun a ha => ?_⟩
  · have h1 := h.lt
    have h2 : (k + 1) * m ≤ (M / Nat.gcd m M) * m := Nat.mul_le_mul_right m hk
    rw [Nat.add_mul, Nat.one_mul] at h2
    rw [Nat.mul_comm m]
    omega
  · rw [List.mem_append] at ha
    rcases ha with ha | ha
    · have h1 : a.2 ∣ k * m := Nat.dvd_trans (by rw [h.mod]; exact lcmF_dvd ha) (Nat.dvd_mul_left _ _)
      obtain ⟨c, hc⟩ := h1
      rw [hc, Nat.add_mul_mod_self_left]
      exact h.res a ha
    · simp at ha; subst ha; exact he
/-- Two of the congruences are at odds. -/
def odds (a b : Nat × Nat) : Prop := ¬ (Nat.gcd a.2 b.2 : Int) ∣ (a.1 : Int) - b.1
theorem Sys.agree {l : List (Nat × Nat)} {n m : Nat} (h : Sys l n m) {a b : Nat × Nat} (ha : a ∈ l) (hb : b ∈ l) : (Nat.gcd a.2 b.2 : Int) ∣ (a.1 : Int) - b.1 := by
  have h1 : (Nat.gcd a.2 b.2 : Int) ∣ (a.1 : Int) - n := Int.dvd_trans (Int.natCast_dvd_natCast.2 (Nat.gcd_dvd_left _ _)) (mod_dvd (h.res a ha))
  have h2 : (Nat.gcd a.2 b.2 : Int) ∣ (b.1 : Int) - n := Int.dvd_trans (Int.natCast_dvd_natCast.2 (Nat.gcd_dvd_right _ _)) (mod_dvd (h.res b hb))
  have h3 := Int.dvd_sub h1 h2
  have e : (a.1 : Int) - n - (b.1 - n) = a.1 - b.1 := by omega
  rwa [e] at h3
end Go.Proofs.Ytmeffbooabionaa
namespace Go.Proofs.Ytmeffbooabionaa

theorem phi_mul {a b : Nat} (ha : 1 ≤ a) (hb : 1 ≤ b) (h : Nat.gcd a b = 1) : phi (a * b) = phi a * phi b := mult_coprime phiG ha hb h
/-- One step of the loop: n / P * (P - 1). -/
theorem phi_step {c P M : Nat} {V : Int} {R : Nat} (hP : 1 ≤ P) (h : (c : Int) = V * ((P ^ (M + 1) * R : Nat) : Int)) : ((c / P * (P - 1) : Nat) : Int) = V * phiG P (M + 1) * (R : Int) := by
  have e1 : (c : Int) = (P : Int) * (V * ((P ^ M * R : Nat) : Int)) := by
    rw [h, Nat.pow_succ]
    push_cast
    rw [Int.mul_left_comm (P : Int) V]
    congr 1
    rw [Int.mul_comm ((P : Int) ^ M) (P : Int), Int.mul_assoc]
  have e2 : ((c / P : Nat) : Int) = V * ((P ^ M * R : Nat) : Int) := by
    have : ((c / P : Nat) : Int) = (c : Int) / (P : Int) := by push_cast; rfl
    rw [this, e1, Int.mul_ediv_cancel_left _ (by omega)]
  have e3 : ((c / P * (P - 1) : Nat) : Int) = ((c / P : Nat) : Int) * ((P : Int) - 1) := by rw [show (P : Int) - 1 = ((P - 1 : Nat) : Int) by omega]; push_cast; rfl
  rw [e3, e2]
  unfold phiG
  rw [Nat.add_sub_cancel]
  have e4 : ((P ^ M * R : Nat) : Int) = (P : Int) ^ M * (R : Int) := by push_cast; rfl
  rw [e4, Int.mul_assoc V, Int.mul_assoc V, Int.mul_assoc, Int.mul_assoc, Int.mul_comm (R : Int)]
theorem phi_le (c P : Nat) : c / P * (P - 1) ≤ c := Nat.le_trans (Nat.mul_le_mul_left _ (Nat.sub_le _ _)) (Nat.div_mul_le_self c P)

/-- A number that has nothing in common with a product has nothing in common with its parts. -/
theorem gcd_prod {a m n : Nat} : Nat.gcd a (m * n) = 1 ↔ Nat.gcd a m = 1 ∧ Nat.gcd a n = 1 := by
  constructor
  · intro h
    exact ⟨Nat.eq_one_of_dvd_one (by rw [← h]; exact Nat.dvd_gcd (Nat.gcd_dvd_left _ _) (Nat.dvd_trans (Nat.gcd_dvd_right _ _) (Nat.dvd_mul_right _ _))),
      Nat.eq_one_of_dvd_one (by rw [← h]; exact Nat.dvd_gcd (Nat.gcd_dvd_left _ _) (Nat.dvd_trans (Nat.gcd_dvd_right _ _) (Nat.dvd_mul_left _ _)))⟩
  · rintro ⟨h1, h2⟩
    exact Nat.Coprime.mul_right h1 h2
theorem gcd_em (a : Int) (m : Nat) : Int.gcd (a % (m : Int)) (m : Int) = Int.gcd a (m : Int) := by
  apply Nat.dvd_antisymm
  · refine Int.dvd_gcd ?_ (Int.gcd_dvd_right _ _)
    have h1 := Int.gcd_dvd_left (a % (m:Int)) (m:Int)
    have h2 := Int.gcd_dvd_right (a % (m:Int)) (m:Int)
    have h3 := Int.dvd_add h1 (Int.dvd_trans h2 (Int.dvd_mul_right (m : Int) (a / (m : Int))))
    rwa [Int.emod_add_mul_ediv] at h3
  · refine Int.dvd_gcd ?_ (Int.gcd_dvd_right _ _)
    rw [Int.emod_def]
    exact Int.dvd_sub (Int.gcd_dvd_left _ _) (Int.dvd_trans (Int.gcd_dvd_right _ _) (Int.dvd_mul_right _ _))
/-- Congruent modulo both, congruent modulo the product. -/
theorem uniq2 {m n z x : Nat} (h : Nat.gcd m n = 1) (hz : z < m * n) (hx : x < m * n) (h1 : z % m = x % m) (h2 : z % n = x % n) : z = x := by
  have a1 : (m : Int) ∣ (z : Int) - x := by
    have : ((z : Int) - x) % m = 0 := Int.emod_eq_emod_iff_emod_sub_eq_zero.1 (by exact_mod_cast h1)
    exact Int.dvd_of_emod_eq_zero this
  have a2 : (n : Int) ∣ (z : Int) - x := by
    have : ((z : Int) - x) % n = 0 := Int.emod_eq_emod_iff_emod_sub_eq_zero.1 (by exact_mod_cast h2)
    exact Int.dvd_of_emod_eq_zero this
  have b1 : m ∣ ((z : Int) - x).natAbs := by rw [← Int.natCast_dvd_natCast, Int.dvd_natAbs]; exact a1
  have b2 : n ∣ ((z : Int) - x).natAbs := by rw [← Int.natCast_dvd_natCast, Int.dvd_natAbs]; exact a2
  have b3 : m * n ∣ ((z : Int) - x).natAbs := Nat.Coprime.mul_dvd_of_dvd_of_dvd h b1 b2
  have b4 : ((z : Int) - x).natAbs < m * n := by omega
  have := Nat.eq_zero_of_dvd_of_lt b3 b4
  omega
/-- An inverse modulo a product is one modulo its parts, and there is but one. -/
theorem inv_uniq {a : Int} {m : Nat} {x y : Int} (hx : x * a % m = 1 % m) (hy : y * a % m = 1 % m) : x % m = y % m := by
  have h1 : x * (y * a) % m = x % m := by rw [Int.mul_emod, hy, ← Int.mul_emod, Int.mul_one]
  have h2 : y * (x * a) % m = y % m := by rw [Int.mul_emod, hx, ← Int.mul_emod, Int.mul_one]
  rw [← h1, ← h2]
  congr 1
  rw [Int.mul_left_comm]
theorem inv_part {a z : Int} {m n : Nat} (h : z * a % ((m * n : Nat) : Int) = 1 % ((m * n : Nat) : Int)) : z * a % m = 1 % m := by
  have h1 : z * a % ((m * n : Nat) : Int) % (m : Int) = 1 % ((m * n : Nat) : Int) % (m : Int) := by rw [h]
  have hd : (m : Int) ∣ ((m * n : Nat) : Int) := ⟨n, by push_cast; rfl⟩
  rwa [Int.emod_emod_of_dvd _ hd, Int.emod_emod_of_dvd _ hd] at h1
theorem gI_a (a : Int) (m : Nat) : gI (a % (m : Int)) (m : Int) = ((Nat.gcd a.natAbs m : Nat) : Int) := by
  unfold gI
  rw [gcd_em]; rfl
end Go.Proofs.Ytmeffbooabionaa
