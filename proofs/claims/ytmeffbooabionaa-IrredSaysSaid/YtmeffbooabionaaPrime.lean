/- Contracts of package prime (Is, Next) and of wholeref.Prime. -/
import Derived.Test.YtmeffbooabionaaRows
import Derived.Test.YtmeffbooabionaaBase
import Derived.Test.YtmeffbooabionaaPrimeM
set_option linter.unusedVariables false
set_option linter.unusedSimpArgs false
namespace Go.Proofs.Ytmeffbooabionaa
open Go.RowKit

theorem sq_int (d : Nat) (M : Nat) (h : d ≤ M) : 0 ≤ (d : Int) * d ∧ (d : Int) * d ≤ (M : Int) * M := by
  have h1 : d * d ≤ M * M := Nat.mul_le_mul h h
  have h2 : ((d * d : Nat) : Int) = (d : Int) * d := by push_cast; rfl
  have h3 : ((M * M : Nat) : Int) = (M : Int) * M := by push_cast; rfl
  omega
theorem dvd_beq (n d : Nat) (h : d ∣ n) : ((n : Int) % (d : Int) == 0) = true := by
  have : ((n % d : Nat) : Int) = 0 := by rw [Nat.mod_eq_zero_of_dvd h]; rfl
  rw [Int.natCast_emod] at this
  simp [this]
theorem ndvd_beq (n d : Nat) (h : ¬ d ∣ n) : ((n : Int) % (d : Int) == 0) = false := by
  have h1 : n % d ≠ 0 := fun h2 => h (Nat.dvd_of_mod_eq_zero h2)
  have : ((n : Int) % (d : Int)) = ((n % d : Nat) : Int) := rfl
  rw [this]
  simp; omega
theorem le_sq {n d : Nat} (h : (d : Int) * d ≤ n) : d * d ≤ n := by
  have h2 : ((d * d : Nat) : Int) = (d : Int) * d := by push_cast; rfl
  omega
theorem lt_sq {n d : Nat} (h : ¬ (d : Int) * d ≤ n) : n < d * d := by
  have h2 : ((d * d : Nat) : Int) = (d : Int) * d := by push_cast; rfl
  omega

set_option maxHeartbeats 400000 in
theorem prime_is (n : Nat) (w : World) (hn : n ≤ 1000000) :
    Calls Try.prog 108 #[.int .i64 n] w fun e w' => e = .returned (.bool (prB n)) ∧ w = w' := by
  go_enter Try.func108, Try.ntmps108
  go_wp2_with fail
  go_loop [3] (fun vd => ∃ d : Nat, vd = .int .i64 d ∧ 2 ≤ d ∧ d ≤ 1001 ∧ Hid (NoDiv n d)) (fun vd => 1001 - (intOf vd).toNat)
  case atStart => exact ⟨2, rfl, by omega, by omega, NoDiv.start n⟩
  case round =>
    obtain ⟨d, rfl, hd, hd2, hno⟩ := hrel
    obtain ⟨p0, p1⟩ := sq_int d 1001 hd2
    by_cases hsq : (d : Int) * d ≤ n
    · have hd3 : d ≤ 1000 := by
        rcases Nat.lt_or_ge 1000 d with h | h
        · have := Nat.mul_le_mul (show 1001 ≤ d from h) (show 1001 ≤ d from h); have := le_sq hsq; omega
        · exact h
      by_cases hdv : d ∣ n
      · have ht := dvd_beq n d hdv
        have hR := Lib.hid (prB_false (NoDiv.notPrime hd (le_sq hsq) hdv))
        clear hdv
        go_wp2
        go_ret
        exact ⟨ret_bool hR.out.symm, rfl⟩
      · have ht := ndvd_beq n d hdv
        have hN := Lib.hid (hno.out.next hdv)
        clear hdv
        go_wp2
        go_round
        case rel => exact ⟨d + 1, by go_num, by omega, by omega, hN⟩
        case measure => simp [intOf]; omega
    · have hlt := lt_sq hsq
      have hR : Hid (decide ((1 : Int) < n) = prB n) := by
        show _ = _
        by_cases h1 : 2 ≤ n
        · rw [prB_true (hno.out.prime h1 hlt)]; simp; omega
        · rw [prB_false (fun h => h1 h.1)]; simp; omega
      clear hlt
      go_wp2
      go_ret
      exact ⟨ret_bool hR.out, rfl⟩

set_option maxHeartbeats 400000 in
theorem prime_Is (n : Nat) (w : World) (hn : n ≤ 1000000) :
    Calls Try.prog 95 #[.int .i64 n] w fun e w' => e = .returned (.tuple #[.bool (prB n), .int .i64 0]) ∧ w = w' := by
  have h1 : decide ((1000000 : Int) < n) = false := by simp; omega
  go_enter Try.func95, Try.ntmps95
  go_wp2_with (go_at_call 108; refine (prime_is n _ hn).mono ?_; rintro e w' ⟨rfl, rfl⟩)
  go_ret2
  exact ⟨rfl, rfl⟩
set_option maxHeartbeats 400000 in
theorem prime_Is_bad (n : Int) (w : World) (hn : n < 0 ∨ 1000000 < n) :
    Calls Try.prog 95 #[.int .i64 n] w fun e w' => e = .returned (.tuple #[.bool false, .int .i64 1]) ∧ w = w' := by
  by_cases h : n < 0
  · go_enter Try.func95, Try.ntmps95
    go_wp2_with fail
    go_ret2
    exact ⟨rfl, rfl⟩
  · have h1 : decide (1000000 < n) = true := by simp; omega
    go_enter Try.func95, Try.ntmps95
    go_wp2_with fail
    go_ret2
    exact ⟨rfl, rfl⟩

/-- The first prime from n on, up to a million. -/
def IsNext (n p : Nat) : Prop := n ≤ p ∧ p ≤ 1000000 ∧ IsPr p ∧ ∀ q, n ≤ q → q < p → ¬ IsPr q
def NoNext (n : Nat) : Prop := ∀ q, n ≤ q → q ≤ 1000000 → ¬ IsPr q
noncomputable def nextI (n : Nat) : Int × Int := @ite _ (∃ p, IsNext n p) (Classical.propDecidable _) (((Classical.epsilon (IsNext n) : Nat) : Int), 0) (0, 4)
theorem IsNext.uniq {n p q : Nat} (h : IsNext n p) (k : IsNext n q) : p = q := by
  rcases Nat.lt_trichotomy p q with h1 | h1 | h1
  · exact absurd h.2.2.1 (k.2.2.2 p h.1 h1)
  · exact h1
  · exact absurd k.2.2.1 (h.2.2.2 q k.1 h1)
theorem nextI_some {n p : Nat} (h : IsNext n p) : nextI n = ((p : Int), 0) := by
  unfold nextI
  rw [if_pos ⟨p, h⟩, (Classical.epsilon_spec (p := IsNext n) ⟨p, h⟩).uniq h]
theorem nextI_none {n : Nat} (h : NoNext n) : nextI n = (0, 4) := by
  unfold nextI
  rw [if_neg]
  rintro ⟨p, h1, h2, h3, _⟩
  exact h p h1 h2 h3

set_option maxHeartbeats 1000000 in
theorem ref_Prime (n : Nat) (w : World) (hn : n ≤ 1000000) :
    Calls Try.prog 54 #[.int .i64 n] w fun e w' => e = .returned (.bool (prB n)) ∧ w = w' := by
  by_cases h4 : n < 4
  · have hR : Hid (((n : Int) == 2 || (n : Int) == 3) = prB n) := by
      show _ = _
      have h5 := isPr_small n h4
      by_cases h6 : IsPr n
      · rw [prB_true h6]; rcases h5.1 h6 with h7 | h7 <;> subst h7 <;> rfl
      · rw [prB_false h6]
        have : n ≠ 2 ∧ n ≠ 3 := by constructor <;> intro h7 <;> exact h6 (h5.2 (by omega))
        simp; omega
    by_cases h2 : n = 2
    · subst h2
      go_enter Try.func54, Try.ntmps54
      go_wp2_with fail
      go_ret
      exact ⟨by rw [← hR.out]; rfl, rfl⟩
    · have hz : ((n : Int) == 2) = false := by simp; omega
      go_enter Try.func54, Try.ntmps54
      go_wp2_with fail
      go_ret
      exact ⟨by rw [← hR.out, hz]; rfl, rfl⟩
  · by_cases h2 : 2 ∣ n
    · have t2 : ((n : Int) % 2 == 0) = true := dvd_beq n 2 h2
      have hR := Lib.hid (prB_false (notPr_of_dvd (by omega) (by omega) h2))
      clear h2
      go_enter Try.func54, Try.ntmps54
      go_wp2_with fail
      go_ret
      exact ⟨ret_bool hR.out.symm, rfl⟩
    · have t2 : ((n : Int) % 2 == 0) = false := ndvd_beq n 2 h2
      by_cases h3 : 3 ∣ n
      · have t3 : ((n : Int) % 3 == 0) = true := dvd_beq n 3 h3
        have hR := Lib.hid (prB_false (notPr_of_dvd (by omega) (by omega) h3))
        clear h2 h3
        go_enter Try.func54, Try.ntmps54
        go_wp2_with fail
        go_ret
        exact ⟨ret_bool hR.out.symm, rfl⟩
      · have t3 : ((n : Int) % 3 == 0) = false := ndvd_beq n 3 h3
        have H2 := Lib.hid h2
        have H3 := Lib.hid h3
        clear h2 h3
        go_enter Try.func54, Try.ntmps54
        go_wp2_with fail
        go_loop [3] (fun vd => ∃ d : Nat, vd = .int .i64 d ∧ 5 ≤ d ∧ d ≤ 1006 ∧ Hid (d % 6 = 5) ∧ Hid (NoDiv n d)) (fun vd => 1006 - (intOf vd).toNat)
        case atStart => exact ⟨5, rfl, by omega, by omega, by show _ = _; rfl, NoDiv.five H2.out H3.out⟩
        case round =>
          obtain ⟨d, rfl, hd, hd2, hmod, hno⟩ := hrel
          obtain ⟨p0, p1⟩ := sq_int d 1006 hd2
          by_cases hsq : (d : Int) * d ≤ n
          · have hd3 : d ≤ 1000 := by
              rcases Nat.lt_or_ge 1000 d with h | h
              · have := Nat.mul_le_mul (show 1001 ≤ d from h) (show 1001 ≤ d from h); have := le_sq hsq; omega
              · exact h
            have hlt : d * 5 ≤ n := Nat.le_trans (Nat.mul_le_mul_left d hd) (le_sq hsq)
            by_cases hdv : d ∣ n
            · have ht := dvd_beq n d hdv
              have hR := Lib.hid (prB_false (NoDiv.notPrime (by omega) (le_sq hsq) hdv))
              clear hdv hlt
              go_wp2_with fail
              go_ret
              exact ⟨ret_bool hR.out.symm, rfl⟩
            · have ht := ndvd_beq n d hdv
              by_cases hdv2 : (d + 2) ∣ n
              · have ht2 : ((n : Int) % ((d : Int) + 2) == 0) = true := dvd_beq n (d + 2) hdv2
                have hR := Lib.hid (prB_false (notPr_of_dvd (by omega) (by omega) hdv2))
                clear hdv hdv2 hlt
                go_wp2_with fail
                go_ret
                exact ⟨ret_bool hR.out.symm, rfl⟩
              · have ht2 : ((n : Int) % ((d : Int) + 2) == 0) = false := ndvd_beq n (d + 2) hdv2
                have hN := Lib.hid (hno.out.six H2.out H3.out hmod.out hdv hdv2)
                clear hdv hdv2 hlt
                go_wp2_with fail
                go_round
                case rel => exact ⟨d + 6, by go_num, by omega, by omega, by have := hmod.out; show _ = _; omega, hN⟩
                case measure => simp [intOf]; omega
          · have hR := Lib.hid (prB_true (hno.out.prime (by omega) (lt_sq hsq)))
            go_wp2_with fail
            go_ret
            exact ⟨ret_bool hR.out.symm, rfl⟩
end Go.Proofs.Ytmeffbooabionaa
