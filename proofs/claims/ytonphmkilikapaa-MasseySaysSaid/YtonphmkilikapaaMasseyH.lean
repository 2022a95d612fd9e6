/- When equations modulo two can be solved (GAUSS), in plain logic. -/
import Derived.Test.YtonphmkilikapaaMasseyM
namespace Go.Proofs.Ytonphmkilikapaa

/-- The place of the lowest bit. -/
def lbw : Nat → Nat → Nat
  | 0, _ => 0
  | f + 1, r => if r % 2 = 1 then 0 else lbw f (r / 2) + 1
theorem lbw_bit : ∀ (w r : Nat), 0 < r → r < 2 ^ w → r.testBit (lbw w r) = true ∧ ∀ k, k < lbw w r → r.testBit k = false := by
  intro w
  induction w with
  | zero => intro r h1 h2; simp at h2; omega
  | succ w ih =>
    intro r h1 h2
    rw [Nat.pow_succ] at h2
    simp only [lbw]
    split
    · rename_i h
      refine ⟨by rw [Nat.testBit_zero]; simpa using h, fun k hk => by omega⟩
    · rename_i h
      obtain ⟨h3, h4⟩ := ih (r / 2) (by omega) (by omega)
      refine ⟨by rw [Nat.testBit_succ]; exact h3, fun k hk => ?_⟩
      cases k with
      | zero => rw [Nat.testBit_zero]; simp; omega
      | succ k => rw [Nat.testBit_succ]; exact h4 k (by omega)
theorem and_double (a b : Nat) : (2 * a) &&& (2 * b) = 2 * (a &&& b) := by
  apply Nat.eq_of_testBit_eq
  intro i
  rw [Nat.testBit_and]
  cases i with
  | zero => simp [Nat.testBit_zero]
  | succ i =>
    rw [Nat.testBit_succ, Nat.testBit_succ, Nat.testBit_succ, Nat.mul_div_cancel_left _ (by omega), Nat.mul_div_cancel_left _ (by omega), Nat.mul_div_cancel_left _ (by omega), Nat.testBit_and]
theorem and_odd (a b : Nat) (h : a &&& b = 0) : (2 * a + 1) &&& (2 * b + 1) = 1 := by
  apply Nat.eq_of_testBit_eq
  intro i
  rw [Nat.testBit_and]
  cases i with
  | zero => simp [Nat.testBit_zero]
  | succ i =>
    have h2 : (a &&& b).testBit i = false := by rw [h]; exact Nat.zero_testBit i
    rw [Nat.testBit_and] at h2
    rw [Nat.testBit_succ, Nat.testBit_succ, Nat.testBit_succ, show (2 * a + 1) / 2 = a by omega, show (2 * b + 1) / 2 = b by omega, h2]
    exact (Nat.zero_testBit i).symm
theorem and_compl (w y : Nat) (h : y < 2 ^ w) : y &&& (2 ^ w - (y + 1)) = 0 := by
  apply Nat.eq_of_testBit_eq
  intro i
  rw [Nat.testBit_and, Nat.testBit_two_pow_sub_succ h, Nat.zero_testBit]
  generalize y.testBit i = b
  cases b <;> simp
theorem and_neg : ∀ (w r : Nat), 0 < r → r < 2 ^ w → r &&& (2 ^ w - r) = 2 ^ lbw w r := by
  intro w
  induction w with
  | zero => intro r h1 h2; simp at h2; omega
  | succ w ih =>
    intro r h1 h2
    have hp : 2 ^ (w + 1) = 2 * 2 ^ w := by rw [Nat.pow_succ, Nat.mul_comm]
    simp only [lbw]
    split
    · rename_i h
      have e1 : r = 2 * (r / 2) + 1 := by omega
      have e2 : 2 ^ (w + 1) - r = 2 * (2 ^ w - (r / 2 + 1)) + 1 := by omega
      rw [e2]
      generalize r / 2 = q at e1 ⊢
      subst e1
      rw [and_odd _ _ (and_compl w q (by omega))]
    · rename_i h
      have e1 : r = 2 * (r / 2) := by omega
      have e2 : 2 ^ (w + 1) - r = 2 * (2 ^ w - r / 2) := by omega
      rw [e2]
      have e3 := ih (r / 2) (by omega) (by omega)
      generalize r / 2 = q at e1 e3 ⊢
      subst e1
      rw [and_double, e3, Nat.pow_succ, Nat.mul_comm]

/-- A row of bits, put together with some numbers. -/
def par (n : Nat) (V : Nat → Bool) (r : Nat) : Bool := xs (n + 1) fun k => r.testBit k && V k
theorem par_xor (n : Nat) (V : Nat → Bool) (a b : Nat) : par n V (a ^^^ b) = (par n V a).xor (par n V b) := by
  unfold par
  rw [← xs_xor]
  refine xs_congr fun k _ => ?_
  rw [Nat.testBit_xor]
  generalize a.testBit k = x
  generalize b.testBit k = y
  generalize V k = z
  cases x <;> cases y <;> cases z <;> rfl
def redS (row r : Nat) : Nat := if row.testBit (lbw 64 r) = true then row ^^^ r else row
def redR (R : List Nat) (row : Nat) : Nat := R.foldl redS row
theorem redR_snoc (R : List Nat) (r row : Nat) : redR (R ++ [r]) row = redS (redR R row) r := by
  simp [redR, List.foldl_append]
theorem redR_par {n : Nat} {V : Nat → Bool} (R : List Nat) (h : ∀ r ∈ R, par n V r = false) (row : Nat) : par n V (redR R row) = par n V row := by
  induction R generalizing row with
  | nil => rfl
  | cons r R ih =>
    show par n V (redR R (redS row r)) = _
    rw [ih fun r hr => h r (List.mem_cons_of_mem _ hr)]
    unfold redS
    split
    · rw [par_xor, h r (List.mem_cons_self ..), Bool.xor_false]
    · rfl
theorem redR_lt {w : Nat} (R : List Nat) (h : ∀ r ∈ R, r < 2 ^ w) {row : Nat} (hr : row < 2 ^ w) : redR R row < 2 ^ w := by
  induction R generalizing row with
  | nil => exact hr
  | cons r R ih =>
    refine ih (fun r hr => h r (List.mem_cons_of_mem _ hr)) (row := redS row r) ?_
    unfold redS
    split
    · exact Nat.xor_lt_two_pow hr (h r (List.mem_cons_self ..))
    · exact hr
/-- Rows of which each has nothing where those ahead have their lowest bit. -/
structure Rows' (w : Nat) (R : List Nat) : Prop where
  lt : ∀ r ∈ R, 0 < r ∧ r < 2 ^ w
  ahead : R.Pairwise (fun r q => q.testBit (lbw 64 r) = false)
theorem redR_clear {w : Nat} (hw : w ≤ 64) : ∀ {R : List Nat}, Rows' w R → ∀ (row : Nat), ∀ r ∈ R, (redR R row).testBit (lbw 64 r) = false := by
  intro R
  induction R with
  | nil => intro _ row r hr; simp at hr
  | cons a R ih =>
    intro h row r hr
    have hp := List.pairwise_cons.1 h.ahead
    have hR : Rows' w R := ⟨fun r hr => h.lt r (List.mem_cons_of_mem _ hr), hp.2⟩
    rw [List.mem_cons] at hr
    rcases hr with hr | hr
    · subst hr
      show (redR R (redS row r)).testBit _ = false
      have key : ∀ (R : List Nat), (∀ q ∈ R, q.testBit (lbw 64 r) = false) → ∀ row, row.testBit (lbw 64 r) = false → (redR R row).testBit (lbw 64 r) = false := by
        intro R
        induction R with
        | nil => intro _ row h; exact h
        | cons b R ih2 =>
          intro hq row hrow
          refine ih2 (fun q h => hq q (List.mem_cons_of_mem _ h)) (redS row b) ?_
          unfold redS
          split
          · rw [Nat.testBit_xor, hrow, hq b (List.mem_cons_self ..)]; rfl
          · exact hrow
      refine key R (fun q hq => hp.1 q hq) _ ?_
      have hlt := h.lt r (List.mem_cons_self ..)
      have hb := (lbw_bit 64 r hlt.1 (Nat.lt_of_lt_of_le hlt.2 (Nat.pow_le_pow_right (by omega) hw))).1
      unfold redS
      split
      · rename_i h1; rw [Nat.testBit_xor, h1, hb]; rfl
      · rename_i h1; simpa using h1
    · exact ih hR _ r hr
/-- A number's rows are solved, if none says that 1 is 0. -/
theorem solve {n : Nat} (hn : n < 64) {R : List Nat} (h : Rows' (n + 1) R) (hok : ∀ r ∈ R, r ≠ 2 ^ n) : ∃ V : Nat → Bool, V n = true ∧ ∀ r ∈ R, par n V r = false := by
  have hb : ∀ r ∈ R, r.testBit (lbw 64 r) = true ∧ ∀ k, k < lbw 64 r → r.testBit k = false := fun r hr =>
    lbw_bit 64 r (h.lt r hr).1 (Nat.lt_of_lt_of_le (h.lt r hr).2 (Nat.pow_le_pow_right (by omega) (by omega)))
  have hlow : ∀ r ∈ R, lbw 64 r < n := by
    intro r hr
    have h1 := hb r hr
    have h2 := h.lt r hr
    rcases Nat.lt_or_ge (lbw 64 r) n with h3 | h3
    · exact h3
    · exfalso
      apply hok r hr
      apply Nat.eq_of_testBit_eq
      intro i
      have hn1 : lbw 64 r = n := by
        rcases Nat.lt_or_ge n (lbw 64 r) with h4 | h4
        · have h5 : r.testBit (lbw 64 r) = false := Nat.testBit_lt_two_pow (Nat.lt_of_lt_of_le h2.2 (Nat.pow_le_pow_right (by omega) h4))
          rw [h1.1] at h5; cases h5
        · omega
      rw [hn1] at h1
      by_cases hi : i = n
      · subst hi; rw [h1.1, Nat.testBit_two_pow_self]
      · rw [Nat.testBit_two_pow_of_ne (by omega)]
        rcases Nat.lt_or_ge i n with h4 | h4
        · exact h1.2 i h4
        · exact Nat.testBit_lt_two_pow (Nat.lt_of_lt_of_le h2.2 (Nat.pow_le_pow_right (by omega) (by omega)))
  have hdist : ∀ r ∈ R, ∀ q ∈ R, lbw 64 r = lbw 64 q → r = q := by
    intro r hr q hq he
    obtain ⟨i, hi, hri⟩ := List.mem_iff_getElem.1 hr
    obtain ⟨j, hj, hqj⟩ := List.mem_iff_getElem.1 hq
    have hp := List.pairwise_iff_getElem.1 h.ahead
    rcases Nat.lt_trichotomy i j with h1 | h1 | h1
    · have := hp i j hi hj h1
      rw [hri, hqj, he, (hb q hq).1] at this; cases this
    · subst h1; rw [← hri, ← hqj]
    · have := hp j i hj hi h1
      rw [hri, hqj, ← he, (hb r hr).1] at this; cases this
  have key : ∀ m, m ≤ n → ∃ V : Nat → Bool, V n = true ∧ ∀ r ∈ R, n - m ≤ lbw 64 r → par n V r = false := by
    intro m
    induction m with
    | zero => intro _; exact ⟨fun _ => true, rfl, fun r hr h1 => by have := hlow r hr; omega⟩
    | succ m ih =>
      intro hm
      obtain ⟨V, hV, hs⟩ := ih (by omega)
      by_cases hex : ∃ r, r ∈ R ∧ lbw 64 r = n - (m + 1)
      · obtain ⟨r, hr, hrk⟩ := hex
        obtain ⟨k, hk⟩ : ∃ k, n - (m + 1) = k := ⟨_, rfl⟩
        rw [hk] at hrk
        refine ⟨fun j => if j = k then (V k).xor (par n V r) else V j, by simp only; rw [if_neg (by omega)]; exact hV, fun q hq hql => ?_⟩
        have upd : ∀ q, par n (fun j => if j = k then (V k).xor (par n V r) else V j) q = (par n V q).xor (q.testBit k && par n V r) := by
          intro q
          have e1 : par n (fun j => if j = k then (V k).xor (par n V r) else V j) q = (par n V q).xor (xs (n + 1) fun j => if j = k then (q.testBit k && par n V r) else false) := by
            conv => rhs; unfold par
            unfold par
            rw [← xs_xor]
            refine xs_congr fun j _ => ?_
            simp only
            by_cases hj : j = k
            · subst hj
              rw [if_pos rfl, if_pos rfl]
              generalize (xs (n + 1) fun k => r.testBit k && V k) = x
              generalize q.testBit j = y
              generalize V j = z
              cases x <;> cases y <;> cases z <;> rfl
            · rw [if_neg hj, if_neg hj, Bool.xor_false]
          rw [e1]
          congr 1
          have e2 : xs (n + 1) (fun j => if j = k then (q.testBit k && par n V r) else false) = xs (k + 1) (fun j => if j = k then (q.testBit k && par n V r) else false) := xs_more (by omega) fun j h1 h2 => if_neg (Nat.ne_of_gt h1)
          rw [e2]
          rw [xs, if_pos rfl]
          have e3 : xs k (fun j => if j = k then (q.testBit k && par n V r) else false) = false := by
            exact (xs_congr fun j hj => if_neg (Nat.ne_of_lt hj)).trans (xs_false k)
          rw [e3, Bool.false_xor]
        rw [upd]
        by_cases hqk : lbw 64 q = k
        · have hqr := hdist q hq r hr (by omega)
          subst hqr
          have h1 := (hb q hq).1
          rw [hqk] at h1
          rw [h1]
          generalize par n V q = x
          cases x <;> rfl
        · rw [(hb q hq).2 k (by omega), hs q hq (by omega)]; rfl
      · refine ⟨V, hV, fun q hq hql => hs q hq ?_⟩
        rcases Nat.lt_or_ge (lbw 64 q) (n - m) with h1 | h1
        · exact absurd ⟨q, hq, by omega⟩ hex
        · exact h1
  obtain ⟨V, hV, hs⟩ := key n (Nat.le_refl n)
  exact ⟨V, hV, fun r hr => hs r hr (by omega)⟩

/-- The equation of bit i: bit n is what comes, the others what was. -/
def rowAt (s : Nat → Bool) (n i : Nat) : Nat → Nat
  | 0 => if s i = true then 2 ^ n else 0
  | k + 1 => rowAt s n i k ||| (if s (i - 1 - k) = true then 2 ^ k else 0)
theorem rowAt_bit (s : Nat → Bool) (n i : Nat) (m : Nat) (hm : m ≤ n) (j : Nat) : (rowAt s n i m).testBit j = if j < m then s (i - 1 - j) else if j = n then s i else false := by
  induction m with
  | zero =>
    rw [if_neg (by omega)]
    simp only [rowAt]
    by_cases h : s i = true
    · rw [if_pos h]
      by_cases hj : j = n
      · subst hj; rw [Nat.testBit_two_pow_self, if_pos rfl, h]
      · rw [Nat.testBit_two_pow_of_ne (by omega), if_neg hj]
    · rw [if_neg h]
      have : s i = false := by simpa using h
      rw [this]; simp
  | succ m ih =>
    simp only [rowAt]
    rw [Nat.testBit_or, ih (by omega)]
    by_cases hj : j = m
    · subst hj
      rw [if_neg (Nat.lt_irrefl j), if_neg (by omega), if_pos (Nat.lt_succ_self j), Bool.false_or]
      by_cases h : s (i - 1 - j) = true
      · rw [if_pos h, Nat.testBit_two_pow_self, h]
      · rw [if_neg h]
        have : s (i - 1 - j) = false := by simpa using h
        rw [this]; simp
    · have e : (if s (i - 1 - m) = true then 2 ^ m else 0).testBit j = false := by
        split
        · exact Nat.testBit_two_pow_of_ne (by omega)
        · simp
      rw [e, Bool.or_false]
      by_cases h1 : j < m
      · rw [if_pos h1, if_pos (by omega)]
      · rw [if_neg h1]; exact (if_neg (by omega)).symm
theorem rowAt_lt (s : Nat → Bool) (n i : Nat) {m : Nat} (hm : m ≤ n) : rowAt s n i m < 2 ^ (n + 1) := by
  apply Nat.lt_pow_two_of_testBit
  intro j hj
  rw [rowAt_bit s n i m hm, if_neg (by omega), if_neg (by omega)]
theorem rowAt_par (s V : Nat → Bool) (n i : Nat) (hV : V n = true) : par n V (rowAt s n i n) = (xs n fun k => V k && s (i - 1 - k)).xor (s i) := by
  unfold par
  simp only [xs]
  rw [rowAt_bit s n i n (Nat.le_refl n), if_neg (by omega), if_pos rfl, hV, Bool.and_true]
  congr 1
  refine xs_congr fun k hk => ?_
  rw [rowAt_bit s n i n (Nat.le_refl n), if_pos hk, Bool.and_comm]
/-- The rows that are kept, after so many equations. -/
def kept (s : Nat → Bool) (n : Nat) : Nat → List Nat
  | 0 => []
  | t + 1 => if redR (kept s n t) (rowAt s n (n + t) n) ≠ 0 then kept s n t ++ [redR (kept s n t) (rowAt s n (n + t) n)] else kept s n t
theorem kept_rows (s : Nat → Bool) {n : Nat} (hn : n < 64) (t : Nat) : Rows' (n + 1) (kept s n t) := by
  induction t with
  | zero => exact ⟨by simp [kept], List.Pairwise.nil⟩
  | succ t ih =>
    simp only [kept]
    split
    · rename_i h
      refine ⟨fun r hr => ?_, ?_⟩
      · rw [List.mem_append] at hr
        rcases hr with hr | hr
        · exact ih.lt r hr
        · simp only [List.mem_singleton] at hr
          subst hr
          exact ⟨by omega, redR_lt _ (fun r hr => (ih.lt r hr).2) (rowAt_lt s n _ (Nat.le_refl n))⟩
      · rw [List.pairwise_append]
        refine ⟨ih.ahead, by simp, fun a ha b hb => ?_⟩
        simp only [List.mem_singleton] at hb
        subst hb
        exact redR_clear (by omega) ih _ a ha
    · exact ih
theorem kept_sat (s V : Nat → Bool) {n : Nat} (t : Nat) : (∀ i, i < t → par n V (rowAt s n (n + i) n) = false) ↔ ∀ r ∈ kept s n t, par n V r = false := by
  induction t with
  | zero => simp [kept]
  | succ t ih =>
    have key : (∀ r ∈ kept s n t, par n V r = false) → par n V (redR (kept s n t) (rowAt s n (n + t) n)) = par n V (rowAt s n (n + t) n) := fun h => redR_par _ h _
    constructor
    · intro h r hr
      have h1 := ih.1 fun i hi => h i (by omega)
      simp only [kept] at hr
      split at hr
      · rw [List.mem_append] at hr
        rcases hr with hr | hr
        · exact h1 r hr
        · simp only [List.mem_singleton] at hr
          subst hr
          rw [key h1]; exact h t (by omega)
      · exact h1 r hr
    · intro h
      have h1 : ∀ r ∈ kept s n t, par n V r = false := by
        intro r hr
        apply h
        simp only [kept]
        split
        · exact List.mem_append_left _ hr
        · exact hr
      have h2 := ih.2 h1
      intro i hi
      by_cases hit : i = t
      · subst hit
        rw [← key h1]
        by_cases h3 : redR (kept s n i) (rowAt s n (n + i) n) = 0
        · rw [h3]
          unfold par
          rw [← xs_false (n + 1)]
          exact xs_congr fun k _ => by rw [Nat.zero_testBit, Bool.false_and]
        · apply h
          simp only [kept]
          rw [if_pos h3]
          exact List.mem_append_right _ (List.mem_singleton.2 rfl)
      · exact h2 i (by omega)
/-- A length is good enough just if no kept row says that 1 is 0. -/
theorem kept_ok (s : Nat → Bool) {n N : Nat} (hn : n < 64) (hnN : n ≤ N) : (∀ r ∈ kept s n (N - n), r ≠ 2 ^ n) ↔ ∃ c, gens s c n N := by
  constructor
  · intro h
    obtain ⟨V, hV, hs⟩ := solve hn (kept_rows s hn (N - n)) h
    have h2 := (kept_sat s V (N - n)).2 hs
    refine ⟨V, fun j h3 h4 => ?_⟩
    have h5 := h2 (j - n) (by omega)
    rw [show n + (j - n) = j by omega, rowAt_par s V n j hV] at h5
    revert h5
    generalize (xs n fun k => V k && s (j - 1 - k)) = x
    generalize s j = y
    cases x <;> cases y <;> simp
  · rintro ⟨c, hc⟩ r hr he
    subst he
    have h2 := (kept_sat s (fun k => if k = n then true else c k) (N - n)).1 (fun i hi => by
      rw [rowAt_par s _ n (n + i) (if_pos rfl)]
      have h5 := hc (n + i) (by omega) (by omega)
      rw [← h5]
      have e : xs n (fun k => (if k = n then true else c k) && s (n + i - 1 - k)) = xs n (fun k => c k && s (n + i - 1 - k)) := xs_congr fun k hk => by rw [if_neg (by omega)]
      rw [e, Bool.xor_self]) _ hr
    unfold par at h2
    rw [xs, Nat.testBit_two_pow_self] at h2
    simp only [if_true] at h2
    have e : xs n (fun k => (2 ^ n).testBit k && (if k = n then true else c k)) = false := by
      rw [← xs_false n]
      exact xs_congr fun k hk => by rw [Nat.testBit_two_pow_of_ne (by omega), Bool.false_and]
    rw [e] at h2
    simp at h2
end Go.Proofs.Ytonphmkilikapaa
