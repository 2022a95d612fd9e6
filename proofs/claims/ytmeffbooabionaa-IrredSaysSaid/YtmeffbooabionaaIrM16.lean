/- Powers modulo m in plain arithmetic. -/

set_option linter.unusedVariables false
set_option linter.unusedSimpArgs false
namespace Go.Proofs.Ytmeffbooabionaa

/-- A power modulo m. -/
def pwm (a : Int) (n : Nat) (m : Int) : Int := a ^ n % m
theorem pow_emod (a m : Int) (n : Nat) : (a % m) ^ n % m = a ^ n % m := by
  induction n with
  | zero => simp
  | succ n ih => rw [Int.pow_succ, Int.pow_succ, Int.mul_emod, ih, Int.emod_emod, ← Int.mul_emod]
theorem pwm_mod (a m : Int) (n : Nat) : pwm (a % m) n m = pwm a n m := pow_emod a m n
theorem mul_pow_emod (x y m : Int) (j : Nat) : (x % m * (y % m) ^ j) % m = (x * y ^ j) % m := by
  rw [Int.mul_emod, Int.emod_emod, pow_emod, ← Int.mul_emod]
theorem pwm_nonneg (a : Int) (n : Nat) {m : Int} (hm : 1 ≤ m) : 0 ≤ pwm a n m ∧ pwm a n m < m :=
  ⟨Int.emod_nonneg _ (by omega), Int.emod_lt_of_pos _ (by omega)⟩
theorem sq_pow (a : Int) (j : Nat) : (a * a) ^ j = a ^ (2 * j) := by
  induction j with
  | zero => simp
  | succ j ih => rw [Int.pow_succ, ih, show 2 * (j + 1) = 2 * j + 1 + 1 by omega, Int.pow_succ, Int.pow_succ, Int.mul_assoc]
theorem pow_odd (out A : Int) (m : Int) (k : Nat) (h : k % 2 = 1) : (out * A % m * (A * A % m) ^ (k / 2)) % m = (out * A ^ k) % m := by
  rw [mul_pow_emod, sq_pow, Int.mul_assoc, Int.mul_comm A, ← Int.pow_succ]
  congr 3; omega
theorem pow_even (out A : Int) (m : Int) (k : Nat) (h : k % 2 = 0) : (out * (A * A % m) ^ (k / 2)) % m = (out * A ^ k) % m := by
  have : (out * (A * A % m) ^ (k / 2)) % m = (out % m * (A * A % m) ^ (k / 2)) % m := by
    generalize (A * A % m) ^ (k / 2) = X
    exact (Int.mul_emod out X m).trans (by rw [Int.mul_emod (out % m) X m, Int.emod_emod])
  rw [this, mul_pow_emod, sq_pow]
  congr 3; omega
theorem pwm_half (a : Int) (n : Nat) (m : Int) : pwm a (n / 2) m * pwm a (n / 2) m % m = pwm a (2 * (n / 2)) m := by
  unfold pwm
  rw [← Int.mul_emod, show 2 * (n / 2) = n / 2 + n / 2 by omega, Int.pow_add]
theorem pwm_succ (a : Int) (n : Nat) (m : Int) : pwm a n m * (a % m) % m = pwm a (n + 1) m := by
  unfold pwm
  rw [← Int.mul_emod, Int.pow_succ]
theorem prod_bd {x y M : Int} (hx : 0 ≤ x) (hx' : x ≤ M) (hy : 0 ≤ y) (hy' : y ≤ M) : 0 ≤ x * y ∧ x * y ≤ M * M :=
  ⟨Int.mul_nonneg hx hy, Int.mul_le_mul hx' hy' hy (by omega)⟩
end Go.Proofs.Ytmeffbooabionaa
namespace Go.Proofs.Ytmeffbooabionaa

/-- The greatest common divisor, as an integer. -/
def gI (a b : Int) : Int := (Int.gcd a b : Int)

theorem gcd_tmod (a b : Int) : Int.gcd b (a.tmod b) = Int.gcd a b := by
  simp only [Int.gcd, Int.natAbs_tmod]
  rw [Nat.gcd_comm, ← Nat.gcd_rec, Nat.gcd_comm]
theorem tmod_lt (a b : Int) (hb : b ≠ 0) : (a.tmod b).natAbs < b.natAbs := by
  rw [Int.natAbs_tmod]; exact Nat.mod_lt _ (by omega)
theorem tmod_in (a b M : Int) (ha : -M ≤ a ∧ a ≤ M) : -M ≤ a.tmod b ∧ a.tmod b ≤ M := by
  have h : (a.tmod b).natAbs ≤ a.natAbs := by rw [Int.natAbs_tmod]; exact Nat.mod_le _ _
  omega
theorem mod_up (a m : Int) (hm : 1 ≤ m) : (a.tmod m + m) % m = a % m := by
  rw [Int.add_emod_right, Int.tmod_eq_emod]
  split
  · simp [Int.sub_zero, Int.emod_emod]
  · have : ((m.natAbs : Int)) = m := by omega
    rw [this, Int.sub_emod, Int.emod_self]; simp

/-- What the rounds of the inverse keep: x and y tell a and b of a0, modulo m; and they stay within m. -/
structure Inv (a0 m a b x y : Int) : Prop where
  a0' : 0 ≤ a
  b0' : 0 ≤ b
  am : a ≤ m
  bm : b ≤ m
  gcd : Int.gcd a b = 1
  ax : m ∣ x * a0 - a
  by' : m ∣ y * a0 - b
  sum : x.natAbs * b.natAbs + y.natAbs * a.natAbs ≤ m.natAbs
  xm : x.natAbs ≤ m.natAbs
  ym : y.natAbs ≤ m.natAbs

theorem Inv.start (a0 m : Int) (h0 : 0 ≤ a0) (h1 : a0 ≤ m) (hm : 1 ≤ m) (hg : Int.gcd a0 m = 1) : Inv a0 m a0 m 1 0 :=
  ⟨h0, by omega, h1, Int.le_refl _, hg, ⟨0, by simp⟩, ⟨-1, by simp⟩, by simp, by omega, by simp⟩

theorem Inv.step {a0 m a b x y : Int} (h : Inv a0 m a b x y) (hb : b ≠ 0) :
    Inv a0 m b (a - a / b * b) y (x - a / b * y) := by
  have hb1 : 1 ≤ b := by have := h.b0'; omega
  have hr : a - a / b * b = a % b := by have := Int.emod_add_mul_ediv a b; rw [Int.mul_comm] at this; omega
  have hr0 : 0 ≤ a % b := Int.emod_nonneg a hb
  have hrb : a % b < b := Int.emod_lt_of_pos a (by omega)
  have hq0 : 0 ≤ a / b := Int.ediv_nonneg h.a0' (by omega)
  have hy : (x - a / b * y).natAbs ≤ x.natAbs + (a / b).natAbs * y.natAbs := by
    have := Int.natAbs_sub_le x (a / b * y); rw [Int.natAbs_mul] at this; exact this
  have hsum : y.natAbs * (a % b).natAbs + (x - a / b * y).natAbs * b.natAbs ≤ m.natAbs := by
    have e : a.natAbs = (a % b).natAbs + (a / b).natAbs * b.natAbs := by
      have h2 := Int.emod_add_mul_ediv a b
      have h3 : ((a.natAbs : Int)) = ((a % b).natAbs : Int) + ((a / b).natAbs : Int) * (b.natAbs : Int) := by
        rw [Int.natAbs_of_nonneg h.a0', Int.natAbs_of_nonneg hr0, Int.natAbs_of_nonneg hq0, Int.natAbs_of_nonneg h.b0', Int.mul_comm (a / b)]; omega
      exact_mod_cast h3
    have h4 := h.sum
    rw [e] at h4
    calc y.natAbs * (a % b).natAbs + (x - a / b * y).natAbs * b.natAbs
        ≤ y.natAbs * (a % b).natAbs + (x.natAbs + (a / b).natAbs * y.natAbs) * b.natAbs := Nat.add_le_add_left (Nat.mul_le_mul_right _ hy) _
      _ = x.natAbs * b.natAbs + y.natAbs * ((a % b).natAbs + (a / b).natAbs * b.natAbs) := by
          simp only [Nat.add_mul, Nat.mul_add, Nat.mul_assoc, Nat.mul_comm, Nat.mul_left_comm]; omega
      _ ≤ m.natAbs := h4
  refine ⟨h.b0', by rw [hr]; exact hr0, h.bm, by rw [hr]; have := h.bm; omega, ?_, h.by', ?_, by rw [hr]; exact hsum, h.ym, ?_⟩
  · rw [hr, ← h.gcd]
    have := gcd_tmod a b
    rw [Int.tmod_eq_emod_of_nonneg h.a0'] at this
    exact this
  · obtain ⟨u, hu⟩ := h.ax
    obtain ⟨v, hv⟩ := h.by'
    refine ⟨u - a / b * v, ?_⟩
    have e1 : x * a0 = m * u + a := by omega
    have e2 : y * a0 = m * v + b := by omega
    rw [Int.sub_mul, Int.mul_assoc, e1, e2, Int.mul_sub, Int.mul_add]
    have e3 : m * (a / b * v) = a / b * (m * v) := by rw [Int.mul_left_comm]
    rw [e3]; omega
  · have : (x - a / b * y).natAbs * 1 ≤ (x - a / b * y).natAbs * b.natAbs := Nat.mul_le_mul_left _ (by omega)
    omega

theorem Inv.last {a0 m a x y : Int} (h : Inv a0 m a 0 x y) : a = 1 ∧ m ∣ x * a0 - 1 := by
  have h1 := h.gcd
  have h0 := h.a0'
  simp [Int.gcd] at h1
  have : a = 1 := by omega
  subst this
  exact ⟨rfl, h.ax⟩

/-- The products of a round lie far within an int. -/
theorem Inv.bounds {a0 m a b x y : Int} (h : Inv a0 m a b x y) (hb : b ≠ 0) (hm : m ≤ 1000000000) :
    0 ≤ a / b ∧ a / b ≤ 1000000000 ∧ 0 ≤ a / b * b ∧ a / b * b ≤ 1000000000 ∧ -1000000000000000000 ≤ a / b * y ∧ a / b * y ≤ 1000000000000000000 := by
  have hb1 : 1 ≤ b := by have := h.b0'; omega
  have hq0 : 0 ≤ a / b := Int.ediv_nonneg h.a0' (by omega)
  have hqa : a / b ≤ a := Int.ediv_le_self _ h.a0'
  have h2 := Int.emod_add_mul_ediv a b
  rw [Int.mul_comm] at h2
  have hr0 : 0 ≤ a % b := Int.emod_nonneg a hb
  have ham := h.am
  have hqb : 0 ≤ a / b * b := Int.mul_nonneg hq0 (by omega)
  have hym := h.ym
  have hp : (a / b * y).natAbs ≤ 1000000000 * 1000000000 := by
    rw [Int.natAbs_mul]; exact Nat.mul_le_mul (by omega) (by omega)
  omega

/-- The inverse of a modulo m, from 0 on and below m. -/
def IsInv (a m X : Int) : Prop := 0 ≤ X ∧ X < m ∧ m ∣ X * a - 1
noncomputable def invOf (a m : Int) : Int := Classical.epsilon (IsInv a m)
theorem IsInv.uniq {a m X Y : Int} (h : IsInv a m X) (k : IsInv a m Y) : X = Y := by
  obtain ⟨h0, h1, u, hu⟩ := h
  obtain ⟨k0, k1, v, hv⟩ := k
  have e : X - Y = m * (Y * u - X * v) := by
    have e1 : X * (Y * a) = X + m * (X * v) := by
      have : Y * a = m * v + 1 := by omega
      rw [this, Int.mul_add, Int.mul_one, Int.mul_left_comm]; omega
    have e2 : Y * (X * a) = Y + m * (Y * u) := by
      have : X * a = m * u + 1 := by omega
      rw [this, Int.mul_add, Int.mul_one, Int.mul_left_comm]; omega
    have e3 : X * (Y * a) = Y * (X * a) := by rw [Int.mul_left_comm]
    rw [Int.mul_sub]; omega
  have hd : m ∣ X - Y := ⟨_, e⟩
  have h2 := Int.emod_eq_emod_iff_emod_sub_eq_zero.2 (Int.emod_eq_zero_of_dvd hd)
  rwa [Int.emod_eq_of_lt h0 h1, Int.emod_eq_of_lt k0 k1] at h2
theorem invOf_eq {a m X : Int} (h : IsInv a m X) : invOf a m = X := (Classical.epsilon_spec (p := IsInv a m) ⟨X, h⟩).uniq h
theorem IsInv.of {a m X : Int} (h : IsInv a m X) : IsInv a m (invOf a m) := by rw [invOf_eq h]; exact h
theorem isInv_mod {a m x : Int} (hm : 1 ≤ m) (h : m ∣ x * (a % m) - 1) : IsInv a m (x % m) := by
  refine ⟨Int.emod_nonneg _ (by omega), Int.emod_lt_of_pos _ (by omega), ?_⟩
  apply Int.dvd_of_emod_eq_zero
  have h1 := Int.emod_eq_zero_of_dvd h
  rw [Int.sub_emod, Int.mul_emod, Int.emod_emod] at h1 ⊢
  simpa using h1
theorem gcd_emod (a m : Int) : Int.gcd (a % m) m = Int.gcd a m := by rw [Int.emod_def, Int.gcd_sub_mul_left_left]

/-- A number that is not 0, by the greatest common divisor. -/
theorem gcd_split (a b : Int) (hb : b ≠ 0) : ∃ g a' b' : Int, g = Int.gcd a b ∧ 1 ≤ g ∧ a = g * a' ∧ b = g * b' ∧ Int.gcd a' b' = 1 ∧ b' ≠ 0 := by
  have hg : 0 < Int.gcd a b := Int.gcd_pos_of_ne_zero_right a hb
  obtain ⟨a', ha⟩ := Int.gcd_dvd_left (a := a) (b := b)
  obtain ⟨b', hb'⟩ := Int.gcd_dvd_right (a := a) (b := b)
  refine ⟨_, a', b', rfl, by omega, ha, hb', ?_, ?_⟩
  · have h := Int.gcd_mul_left (Int.gcd a b : Int) a' b'
    rw [← ha, ← hb'] at h
    have h2 : Int.gcd a b * Int.gcd a' b' = Int.gcd a b * 1 := by simpa using h.symm
    exact Nat.eq_of_mul_eq_mul_left hg h2
  · intro h; rw [h] at hb'; simp at hb'; exact hb hb'

noncomputable def bezX (a b : Int) : Int :=
  if b = 0 then (if 0 < a then 1 else if a < 0 then -1 else 0) else invOf (a.tdiv (gI a b)) ((max b (-b)).tdiv (gI a b))
noncomputable def bezY (a b : Int) : Int := if b = 0 then 0 else (gI a b - bezX a b * a).tdiv b

theorem tdiv_cancel (g a : Int) (hg : 1 ≤ g) : (g * a).tdiv g = a := Int.mul_tdiv_cancel_left a (by omega)
theorem max_neg_mul (g b : Int) (hg : 1 ≤ g) : max (g * b) (-(g * b)) = g * max b (-b) := by
  have h1 : ∀ x : Int, max x (-x) = x.natAbs := by intro x; omega
  rw [h1, h1, Int.natAbs_mul]; push_cast; rw [show ((g.natAbs : Int)) = g by omega]
theorem bez_parts (a b : Int) (hb : b ≠ 0) : ∃ g a' b' : Int, g = gI a b ∧ 1 ≤ g ∧ a = g * a' ∧ b = g * b' ∧ a.tdiv g = a' ∧ (max b (-b)).tdiv g = max b' (-b') ∧ 1 ≤ max b' (-b') ∧ Int.gcd a' (max b' (-b')) = 1 := by
  obtain ⟨g, a', b', h1, h2, h3, h4, h5, h6⟩ := gcd_split a b hb
  refine ⟨g, a', b', h1, h2, h3, h4, by rw [h3, tdiv_cancel g a' h2], by rw [h4, max_neg_mul g b' h2, tdiv_cancel _ _ h2], by omega, ?_⟩
  have : max b' (-b') = b'.natAbs := by omega
  rw [this]; simpa [Int.gcd] using h5

theorem inv_exists (a m : Int) (hm : 1 ≤ m) (hg : Int.gcd a m = 1) : ∃ X, IsInv a m X := by
  suffices H : ∀ (k : Nat) (c x y d : Int), d.natAbs ≤ k → Inv (a % m) m c d x y → ∃ X, IsInv a m X by
    exact H _ _ _ _ _ (Nat.le_refl _) (Inv.start (a % m) m (Int.emod_nonneg a (by omega)) (Int.le_of_lt (Int.emod_lt_of_pos a (by omega))) hm (by rw [gcd_emod]; exact hg))
  intro k
  induction k with
  | zero =>
    intro c x y d hk h
    obtain rfl : d = 0 := by omega
    exact ⟨_, isInv_mod hm h.last.2⟩
  | succ k ih =>
    intro c x y d hk h
    by_cases hd : d = 0
    · subst hd; exact ⟨_, isInv_mod hm h.last.2⟩
    · refine ih _ _ _ _ ?_ (h.step hd)
      have h1 := Int.emod_lt_of_pos c (b := d) (by have := h.b0'; omega)
      have h3 := Int.emod_nonneg c hd
      have h4 := Int.emod_add_mul_ediv c d
      rw [Int.mul_comm] at h4
      have := h.b0'
      omega

theorem bez_law (a b : Int) (hb : b ≠ 0) : 0 ≤ bezX a b ∧ bezX a b < (max b (-b)).tdiv (gI a b) ∧ bezX a b * a + bezY a b * b = gI a b := by
  obtain ⟨g, a', b', h1, h2, h3, h4, h5, h6, h7, h8⟩ := bez_parts a b hb
  obtain ⟨X, hX⟩ := inv_exists a' _ h7 h8
  have hx : bezX a b = X := by unfold bezX; rw [if_neg hb, ← h1, h5, h6, invOf_eq hX]
  rw [hx, ← h1, h6]
  refine ⟨hX.1, hX.2.1, ?_⟩
  obtain ⟨u, hu⟩ := hX.2.2
  have hb'm : ∃ v : Int, max b' (-b') * u = b' * v := by
    rcases Int.le_total 0 b' with h | h
    · exact ⟨u, by rw [Int.max_eq_left (by omega)]⟩
    · exact ⟨-u, by rw [Int.max_eq_right (by omega), Int.neg_mul, Int.mul_neg]⟩
  obtain ⟨v, hv⟩ := hb'm
  have e : g - X * a = b * (-v) := by
    rw [h3, h4]
    have : X * (g * a') = g * (X * a') := by rw [Int.mul_left_comm]
    rw [this, show X * a' = b' * v + 1 by omega, Int.mul_add, Int.mul_neg, Int.mul_assoc]; omega
  have hy : bezY a b = -v := by
    unfold bezY; rw [if_neg hb, hx, ← h1, e, Int.mul_tdiv_cancel_left _ hb]
  rw [hy, Int.mul_comm (-v) b, ← e]; omega

theorem max_if (b : Int) : max b (-b) = if b < -b then -b else b := by split <;> omega
theorem gI_le (a b : Int) (hb : b ≠ 0) : gI a b ≤ max b (-b) := by
  have := Int.gcd_le_natAbs_right (a := a) (b := b) hb
  unfold gI; omega
theorem gI_pos (a b : Int) (h : a ≠ 0 ∨ b ≠ 0) : 1 ≤ gI a b := by
  have : 0 < Int.gcd a b := by
    rcases h with h | h
    · exact Int.gcd_pos_of_ne_zero_left b h
    · exact Int.gcd_pos_of_ne_zero_right a h
  unfold gI; omega
/-- What Bezout hands to the inverse, and what comes back, in the walk's own spelling. -/
structure BezSteps (a b : Int) : Prop where
  g1 : 1 ≤ gI a b
  gm : gI a b ≤ 1000000000
  lo : -1000000000 ≤ a.tdiv (gI a b)
  hi : a.tdiv (gI a b) ≤ 1000000000
  m1 : 1 ≤ (if b < -b then -b else b) / gI a b
  mm : (if b < -b then -b else b) / gI a b ≤ 1000000000
  gcd : Int.gcd (a.tdiv (gI a b)) ((if b < -b then -b else b) / gI a b) = 1
  x : invOf (a.tdiv (gI a b)) ((if b < -b then -b else b) / gI a b) = bezX a b
  y : (gI a b - bezX a b * a).tdiv b = bezY a b
  x0 : 0 ≤ bezX a b
  xm : bezX a b ≤ 1000000000
  plo : -1000000000000000000 ≤ bezX a b * a
  phi : bezX a b * a ≤ 1000000000000000000
  ylo : -9223372036854775808 ≤ (gI a b - bezX a b * a).tdiv b
  yhi : (gI a b - bezX a b * a).tdiv b ≤ 9223372036854775807
theorem bezSteps (a b : Int) (ha : -1000000000 ≤ a) (ha' : a ≤ 1000000000) (hb : -1000000000 ≤ b) (hb' : b ≤ 1000000000) (h0 : b ≠ 0) : BezSteps a b := by
  obtain ⟨l0, l1, l2⟩ := bez_law a b h0
  have hx : bezX a b = invOf (a.tdiv (gI a b)) ((max b (-b)).tdiv (gI a b)) := by unfold bezX; rw [if_neg h0]
  have hy : bezY a b = (gI a b - bezX a b * a).tdiv b := by unfold bezY; rw [if_neg h0]
  have hg := gI_le a b h0
  have hg1 := gI_pos a b (.inr h0)
  obtain ⟨g, a', b', h1, h2, h3, h4, h5, h6, h7, h8⟩ := bez_parts a b h0
  have hq : (max b (-b)).tdiv (gI a b) = (max b (-b)) / gI a b := Int.tdiv_eq_ediv_of_nonneg (by omega)
  have hq2 : (max b (-b)) / gI a b ≤ max b (-b) := Int.ediv_le_self _ (by omega)
  have hta : (a.tdiv (gI a b)).natAbs ≤ a.natAbs := Int.natAbs_tdiv_le_natAbs _ _
  have hp : (bezX a b * a).natAbs ≤ 1000000000 * 1000000000 := by
    rw [Int.natAbs_mul]; exact Nat.mul_le_mul (by omega) (by omega)
  have hty : ((gI a b - bezX a b * a).tdiv b).natAbs ≤ (gI a b - bezX a b * a).natAbs := Int.natAbs_tdiv_le_natAbs _ _
  subst h1
  rw [hq] at hx l1
  rw [h6] at hq
  simp only [max_if] at *
  exact ⟨by omega, by omega, by omega, by omega, by omega, by omega, by rw [h5, ← hq]; exact h8, hx.symm, hy.symm, l0, by omega, by omega, by omega, by omega, by omega⟩
end Go.Proofs.Ytmeffbooabionaa
