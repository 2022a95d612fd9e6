/- Binomial numbers in plain arithmetic. -/
namespace Go.Proofs.Ytiljppeamdoocaa

/-- PASCAL's triangle. -/
def ch : Nat → Nat → Nat
  | _, 0 => 1
  | 0, _ + 1 => 0
  | n + 1, k + 1 => ch n k + ch n (k + 1)
theorem ch_zero (n : Nat) : ch n 0 = 1 := by cases n <;> rfl
theorem ch_succ (n k : Nat) : ch (n + 1) (k + 1) = ch n k + ch n (k + 1) := rfl
theorem ch_big : ∀ (n k : Nat), n < k → ch n k = 0 := by
  intro n
  induction n with
  | zero => intro k h; cases k with
            | zero => omega
            | succ k => rfl
  | succ n ih => intro k h; cases k with
                 | zero => omega
                 | succ k => rw [ch_succ, ih k (by omega), ih (k + 1) (by omega)]
theorem ch_self (n : Nat) : ch n n = 1 := by
  induction n with
  | zero => rfl
  | succ n ih => rw [ch_succ, ih, ch_big n (n + 1) (by omega)]
theorem ch_step : ∀ (n k : Nat), ch n (k + 1) * (k + 1) = ch n k * (n - k) := by
  intro n
  induction n with
  | zero => intro k; show 0 * (k + 1) = ch 0 k * (0 - k); rw [Nat.zero_sub, Nat.mul_zero, Nat.zero_mul]
  | succ n ih =>
    intro k
    cases k with
    | zero =>
      have h := ih 0
      rw [ch_zero] at h ⊢
      rw [ch_succ, ch_zero]
      simp only [Nat.zero_add, Nat.mul_one, Nat.sub_zero, Nat.one_mul] at h ⊢
      omega
    | succ k =>
      have h1 := ih (k + 1)
      have h2 := ih k
      rw [ch_succ n (k + 1), ch_succ n k, Nat.add_mul, Nat.add_mul, h1]
      rcases Nat.lt_or_ge n (k + 1) with h | h
      · rw [ch_big n (k + 1) h, show n + 1 - (k + 1) = 0 by omega]
        simp only [Nat.zero_mul, Nat.zero_add, Nat.mul_zero, Nat.add_zero]
      · obtain ⟨d, hd⟩ := Nat.exists_eq_add_of_le h
        rw [show n - (k + 1) = d by omega, show n + 1 - (k + 1) = d + 1 by omega]
        rw [show n - k = d + 1 by omega] at h2
        rw [← h2, ← Nat.mul_add, ← Nat.mul_add]
        congr 1
        omega
theorem ch_sym : ∀ (n k : Nat), k ≤ n → ch n k = ch n (n - k) := by
  intro n
  induction n with
  | zero => intro k h; obtain rfl : k = 0 := by omega
            rfl
  | succ n ih =>
    intro k h
    cases k with
    | zero => rw [ch_zero, Nat.sub_zero, ch_self]
    | succ k =>
      by_cases he : k = n
      · subst he; rw [ch_self, Nat.sub_self, ch_zero]
      · have e : n + 1 - (k + 1) = (n - (k + 1)) + 1 := by omega
        rw [e, ch_succ, ch_succ, ih k (by omega), ih (k + 1) (by omega), show n - k = n - (k + 1) + 1 by omega, Nat.add_comm]
theorem ch_div (n k : Nat) : ch n k * (n - k) / (k + 1) = ch n (k + 1) := by
  rw [← ch_step, Nat.mul_div_cancel _ (by omega)]
/-- The rows, one out of the other. -/
def nextRow : List Nat → List Nat
  | [] => []
  | [_] => []
  | a :: b :: l => (a + b) :: nextRow (b :: l)
def chRow (n : Nat) : List Nat := (List.range (n + 1)).map (ch n)
def rows : Nat → List Nat
  | 0 => [1]
  | n + 1 => 1 :: (nextRow (rows n) ++ [1])
theorem nextRow_map (n a m : Nat) : nextRow ((List.range' a (m + 1)).map (ch n)) = (List.range' a m).map fun k => ch (n + 1) (k + 1) := by
  induction m generalizing a with
  | zero => rfl
  | succ m ih =>
    have e : List.range' a (m + 1 + 1) = a :: (a + 1) :: List.range' (a + 2) m := by simp [List.range'_succ]
    have e2 : List.range' (a + 1) (m + 1) = (a + 1) :: List.range' (a + 2) m := by simp [List.range'_succ]
    have h := ih (a + 1)
    rw [e2] at h
    rw [e]
    simp only [List.map_cons, nextRow] at h ⊢
    rw [h, List.range'_succ]
    simp only [List.map_cons]
    congr 1
theorem rows_eq (n : Nat) : rows n = chRow n := by
  induction n with
  | zero => rfl
  | succ n ih =>
    simp only [rows]
    rw [ih]
    unfold chRow
    rw [List.range_eq_range', nextRow_map, List.range_eq_range']
    rw [show List.range' 0 (n + 1 + 1) = 0 :: List.range' 1 (n + 1) from List.range'_succ .., List.map_cons, ch_zero]
    congr 1
    have : List.range' 1 (n + 1) = List.range' 1 n ++ [n + 1] := by rw [List.range'_concat]; simp [Nat.add_comm]
    rw [this, List.map_append]
    congr 1
    · apply List.ext_getElem?
      intro k
      simp only [List.getElem?_map]
      by_cases hk : k < n
      · rw [List.getElem?_range' hk, List.getElem?_range' hk]
        simp [Nat.add_comm]
      · rw [List.getElem?_eq_none (by simp; omega), List.getElem?_eq_none (by simp; omega)]
        rfl
    · simp [ch_self]
theorem chRow_le : ∀ n : Fin 61, (rows n.val).all (fun x => decide (x ≤ 118264581564861424)) = true := by decide +kernel
theorem ch_le {n k : Nat} (hn : n ≤ 60) : ch n k ≤ 118264581564861424 := by
  rcases Nat.lt_or_ge n k with h | h
  · rw [ch_big n k h]; omega
  · have h1 := chRow_le ⟨n, by omega⟩
    simp only at h1
    rw [rows_eq, List.all_eq_true] at h1
    have h2 := h1 (ch n k) (List.mem_map.2 ⟨k, List.mem_range.2 (by omega), rfl⟩)
    simpa using h2

/-! ### Digit by digit (LUCAS) -/
def luc (p : Nat) : Nat → Nat → Nat → Nat → Nat
  | 0, _, _, o => o
  | f + 1, n, k, o => if n = 0 ∧ k = 0 then o else luc p f (n / p) (k / p) (o * (ch (n % p) (k % p) % p) % p)
theorem luc_fuel (p : Nat) (hp : 2 ≤ p) : ∀ (f g n k o : Nat), n + k ≤ f → n + k ≤ g → luc p f n k o = luc p g n k o := by
  intro f
  induction f with
  | zero =>
    intro g n k o h1 h2
    obtain rfl : n = 0 := by omega
    obtain rfl : k = 0 := by omega
    cases g with
    | zero => rfl
    | succ g => simp [luc]
  | succ f ih =>
    intro g n k o h1 h2
    cases g with
    | zero =>
      obtain rfl : n = 0 := by omega
      obtain rfl : k = 0 := by omega
      simp [luc]
    | succ g =>
      simp only [luc]
      split
      · rfl
      · rename_i h
        have a1 : n / p ≤ n := Nat.div_le_self _ _
        have a2 : k / p ≤ k := Nat.div_le_self _ _
        have a3 : n / p + k / p < n + k := by
          by_cases hn : n = 0
          · have hk : 0 < k := by omega
            have := Nat.div_lt_self hk (by omega : 1 < p)
            omega
          · have := Nat.div_lt_self (show 0 < n by omega) (by omega : 1 < p)
            omega
        exact ih g _ _ _ (by omega) (by omega)
def chMod (n k p : Nat) : Nat := luc p (n + k) n k 1
theorem luc_step {p f n k o : Nat} (h : ¬ (n = 0 ∧ k = 0)) : luc p (f + 1) n k o = luc p f (n / p) (k / p) (o * (ch (n % p) (k % p) % p) % p) := by simp only [luc]; rw [if_neg h]
theorem luc_done (p f o : Nat) : luc p f 0 0 o = o := by cases f <;> simp [luc]
/-- The product's road: what has been multiplied so far. -/
theorem small_step {n i p inv out : Nat} (hi : inv * (i + 1) % p = 1 % p) (ho : out = ch n i % p) : out * (n - i) % p * inv % p = ch n (i + 1) % p := by
  subst ho
  have h1 : ch n i % p * (n - i) % p * inv % p = ch n i * (n - i) * inv % p := by
    have h2 : ch n i % p * (n - i) % p = ch n i * (n - i) % p := by rw [Nat.mod_mul_mod]
    rw [h2, Nat.mod_mul_mod]
  rw [h1, ← ch_step, Nat.mul_assoc, Nat.mul_comm (i + 1) inv, Nat.mul_mod, hi, ← Nat.mul_mod, Nat.mul_one]
/-- LEGENDRE: how often p divides what n things can be ordered in. -/
def oft (p : Nat) : Nat → Nat → Nat → Nat
  | 0, _, o => o
  | f + 1, n, o => if n = 0 then o else oft p f (n / p) (o + n / p)
theorem oft_fuel (p : Nat) (hp : 2 ≤ p) : ∀ (f g n o : Nat), n ≤ f → n ≤ g → oft p f n o = oft p g n o := by
  intro f
  induction f with
  | zero =>
    intro g n o h1 h2
    obtain rfl : n = 0 := by omega
    cases g <;> simp [oft]
  | succ f ih =>
    intro g n o h1 h2
    cases g with
    | zero =>
      obtain rfl : n = 0 := by omega
      simp [oft]
    | succ g =>
      simp only [oft]
      split
      · rfl
      · rename_i h
        have := Nat.div_lt_self (show 0 < n by omega) (by omega : 1 < p)
        exact ih g _ _ (by omega) (by omega)
def often (n p : Nat) : Nat := oft p n n 0
theorem oft_le (p : Nat) (hp : 2 ≤ p) : ∀ (f n o : Nat), oft p f n o ≤ o + n := by
  intro f
  induction f with
  | zero => intro n o; simp [oft]
  | succ f ih =>
    intro n o
    simp only [oft]
    split
    · omega
    · have h1 := ih (n / p) (o + n / p)
      have h2 : n / p ≤ n / 2 := Nat.div_le_div_left hp (by omega)
      omega
theorem often_le {n p : Nat} (hp : 2 ≤ p) : often n p ≤ n := by have := oft_le p hp n n 0; unfold often; omega
end Go.Proofs.Ytiljppeamdoocaa
