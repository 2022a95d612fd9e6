/- Prime numbers, in plain arithmetic: no program in sight. -/

set_option linter.unusedVariables false
set_option linter.unusedSimpArgs false
namespace Go.Proofs.Ytmeffbooabionaa

def IsPr (n : Nat) : Prop := 2 ≤ n ∧ ∀ d, 2 ≤ d → d < n → ¬ d ∣ n
noncomputable def prB (n : Nat) : Bool := @decide (IsPr n) (Classical.propDecidable _)
theorem prB_iff {n : Nat} : prB n = true ↔ IsPr n := by unfold prB; exact @decide_eq_true_iff _ (Classical.propDecidable _)
theorem prB_iff' {n : Nat} : prB n = false ↔ ¬ IsPr n := by unfold prB; exact @decide_eq_false_iff_not _ (Classical.propDecidable _)

theorem prB_true {n : Nat} (h : IsPr n) : prB n = true := prB_iff.2 h
theorem prB_false {n : Nat} (h : ¬ IsPr n) : prB n = false := prB_iff'.2 h
/-- No number from 2 on and below d divides n. -/
def NoDiv (n d : Nat) : Prop := ∀ e, 2 ≤ e → e < d → ¬ e ∣ n
theorem NoDiv.start (n : Nat) : NoDiv n 2 := fun e h1 h2 => by omega
theorem NoDiv.next {n d : Nat} (h : NoDiv n d) (hd : ¬ d ∣ n) : NoDiv n (d + 1) := by
  intro e h1 h2
  by_cases he : e = d
  · subst he; exact hd
  · exact h e h1 (by omega)
theorem NoDiv.prime {n d : Nat} (h : NoDiv n d) (hn : 2 ≤ n) (hd : n < d * d) : IsPr n := by
  refine ⟨hn, fun e h1 h2 hdv => ?_⟩
  obtain ⟨c, hc⟩ := hdv
  have hc2 : 2 ≤ c := by
    rcases Nat.lt_or_ge c 2 with h3 | h3
    · have : c = 0 ∨ c = 1 := by omega
      rcases this with h4 | h4
      · subst h4; omega
      · subst h4; omega
    · exact h3
  by_cases hed : e < d
  · exact h e h1 hed ⟨c, hc⟩
  · by_cases hcd : c < d
    · exact h c hc2 hcd ⟨e, by rw [hc, Nat.mul_comm]⟩
    · have : d * d ≤ e * c := Nat.mul_le_mul (by omega) (by omega)
      omega
theorem NoDiv.notPrime {n d : Nat} (hd : 2 ≤ d) (h2 : d * d ≤ n) (hdv : d ∣ n) : ¬ IsPr n := by
  intro h
  refine h.2 d hd ?_ hdv
  have : d * 2 ≤ d * d := Nat.mul_le_mul_left d hd
  omega
/-- A divisor below which there is none is prime. -/
theorem NoDiv.divisor {n d : Nat} (h : NoDiv n d) (hd : 2 ≤ d) (hdv : d ∣ n) : IsPr d :=
  ⟨hd, fun e h1 h2 h3 => h e h1 h2 (Nat.dvd_trans h3 hdv)⟩
theorem NoDiv.of_dvd {n m d : Nat} (h : NoDiv n d) (hm : m ∣ n) : NoDiv m d := fun e h1 h2 h3 => h e h1 h2 (Nat.dvd_trans h3 hm)
theorem NoDiv.ge {n d : Nat} (h : NoDiv n d) (hn : 2 ≤ n) : d ≤ n := by
  rcases Nat.lt_or_ge n d with h1 | h1
  · exact absurd ⟨1, by simp⟩ (h n hn h1)
  · exact h1
theorem isPr_small (n : Nat) (h : n < 4) : IsPr n ↔ n = 2 ∨ n = 3 := by
  constructor
  · intro h1; have := h1.1; omega
  · rintro (h1 | h1)
    · subst h1; exact ⟨by omega, fun d h2 h3 => by omega⟩
    · subst h1
      refine ⟨by omega, fun d h2 h3 h4 => ?_⟩
      obtain rfl : d = 2 := by omega
      omega
/-- Numbers that neither 2 nor 3 divides: six by six. -/
theorem NoDiv.six {n d : Nat} (h : NoDiv n d) (h2 : ¬ 2 ∣ n) (h3 : ¬ 3 ∣ n) (hd : d % 6 = 5) (hd1 : ¬ d ∣ n) (hd2 : ¬ (d + 2) ∣ n) : NoDiv n (d + 6) := by
  have e2 : ∀ e, e % 2 = 0 → ¬ e ∣ n := fun e he hdv => h2 (Nat.dvd_trans (by omega) hdv)
  have e3 : ∀ e, e % 3 = 0 → ¬ e ∣ n := fun e he hdv => h3 (Nat.dvd_trans (by omega) hdv)
  have s1 := h.next hd1
  have s2 := s1.next (e2 (d + 1) (by omega))
  have s3 := s2.next hd2
  have s4 := s3.next (e2 (d + 3) (by omega))
  have s5 := s4.next (e3 (d + 4) (by omega))
  exact s5.next (e2 (d + 5) (by omega))
theorem NoDiv.five {n : Nat} (h2 : ¬ 2 ∣ n) (h3 : ¬ 3 ∣ n) : NoDiv n 5 := by
  intro e h4 h5 h6
  have : e = 2 ∨ e = 3 ∨ e = 4 := by omega
  rcases this with h | h | h
  · subst h; exact h2 h6
  · subst h; exact h3 h6
  · subst h; exact h2 (Nat.dvd_trans (by omega) h6)
theorem notPr_of_dvd {n d : Nat} (h1 : 2 ≤ d) (h2 : d < n) (h3 : d ∣ n) : ¬ IsPr n := fun h => h.2 d h1 h2 h3
end Go.Proofs.Ytmeffbooabionaa
