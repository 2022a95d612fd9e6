/- Contracts of package rest (Of, Pow) and of the reference's rest and powers. -/
import Derived.Test.YtiljppeamdoocaaRows
import Derived.Test.YtiljppeamdoocaaBase
import Derived.Test.YtiljppeamdoocaaRestM
import Derived.Test.YtiljppeamdoocaaEuclid
namespace Go.Proofs.Ytiljppeamdoocaa
open Go.RowKit

set_option maxHeartbeats 400000 in
theorem rest_Of (a m : Int) (w : World) (ha : -9223372036854775808 ≤ a) (ha' : a ≤ 9223372036854775807) (hm : 1 ≤ m) (hm' : m ≤ 1000000) :
    Calls Try.prog 82 #[.int .i64 a, .int .i64 m] w fun e w' => e = .returned (.tuple #[.int .i64 (a % m), .int .i64 0]) ∧ ∃ n, w' = w.drewN n := by
  have h1 : -1000000 ≤ a.tmod m ∧ a.tmod m ≤ 1000000 := by
    have := Int.lt_tmod_of_pos a (b := m) (by omega); have := Int.tmod_lt_of_pos a (b := m) (by omega); omega
  have h2 : 0 ≤ a.tmod m + m := by have := Int.lt_tmod_of_pos a (b := m) (by omega); omega
  have hz : (m == 0) = false := by simp; omega
  have hmz : ¬ m = 0 := by omega
  have d1 : decide (1000000 < m) = false := by simp; omega
  have hR := Lib.hid (mod_up a m hm)
  go_enter Try.func82, Try.ntmps82
  go_wp2
  go_ret2
  exact ⟨by rw [← hR.out]; rfl, 0, rfl⟩
set_option maxHeartbeats 400000 in
theorem rest_Of_bad (a m : Int) (w : World) (hm : m < 1 ∨ 1000000 < m) :
    Calls Try.prog 82 #[.int .i64 a, .int .i64 m] w fun e w' => e = .returned (.tuple #[.int .i64 0, .int .i64 1]) ∧ ∃ n, w' = w.drewN n := by
  by_cases h : m < 1
  · go_enter Try.func82, Try.ntmps82
    go_wp2_with fail
    go_ret2
    exact ⟨rfl, 0, rfl⟩
  · have d1 : decide (1000000 < m) = true := by simp; omega
    go_enter Try.func82, Try.ntmps82
    go_wp2_with fail
    go_ret2
    exact ⟨rfl, 0, rfl⟩

set_option maxHeartbeats 400000 in
theorem ref_Rest (a m : Int) (w : World) (ha : -9223372036854775808 ≤ a) (ha' : a ≤ 9223372036854775807) (hm : 1 ≤ m) (hm' : m ≤ 1000000000) :
    Calls Try.prog 74 #[.int .i64 a, .int .i64 m] w fun e w' => e = .returned (.int .i64 (a % m)) ∧ ∃ n, w' = w.drewN n := by
  have hmz : ¬ m = 0 := by omega
  have hz : (m == 0) = false := by simp; omega
  have l1 := Int.lt_tmod_of_pos a (b := m) (by omega)
  have l2 := Int.tmod_lt_of_pos a (b := m) (by omega)
  by_cases h : a.tmod m < 0
  · have hR : Hid (a.tmod m + m = a % m) := by
      show _ = _
      have := mod_up a m hm
      rw [Int.emod_eq_of_lt (by omega) (by omega)] at this
      exact this
    go_enter Try.func74, Try.ntmps74
    go_wp2
    go_ret
    exact ⟨ret_int hR.out, 0, rfl⟩
  · have hR : Hid (a.tmod m = a % m) := by
      show _ = _
      have := mod_up a m hm
      rw [Int.add_emod_right, Int.emod_eq_of_lt (by omega) (by omega)] at this
      exact this
    go_enter Try.func74, Try.ntmps74
    go_wp2
    go_ret
    exact ⟨ret_int hR.out, 0, rfl⟩
set_option maxHeartbeats 400000 in
theorem ref_mod (a m : Int) (w : World) (ha : -9223372036854775808 ≤ a) (ha' : a ≤ 9223372036854775807) (hm : 1 ≤ m) (hm' : m ≤ 1000000000) :
    Calls Try.prog 102 #[.int .i64 a, .int .i64 m] w fun e w' => e = .returned (.int .i64 (a % m)) ∧ ∃ n, w' = w.drewN n := by
  go_enter Try.func102, Try.ntmps102
  go_wp2_with (go_at_call 74; refine (ref_Rest a m _ ha ha' hm hm').mono ?_; rintro e w' ⟨rfl, n, rfl⟩)
  go_ret
  exact ⟨rfl, _, rfl⟩

set_option maxHeartbeats 1000000 in
theorem ref_PowOf (f : Nat) : ∀ (a : Int) (n : Nat) (m : Int) (w : World), n < 2 ^ f → n < 9223372036854775808 → -9223372036854775808 ≤ a → a ≤ 9223372036854775807 → 1 ≤ m → m ≤ 1000000 →
    Calls Try.prog 104 #[.int .i64 a, .int .i64 n, .int .i64 m] w fun e w' => e = .returned (.int .i64 (pwm a n m)) ∧ ∃ n, w' = w.drewN n := by
  induction f with
  | zero =>
    intro a n m w hf hn ha ha' hm hm'
    obtain rfl : n = 0 := by simpa using hf
    have hmz : ¬ m = 0 := by omega
    go_enter Try.func104, Try.ntmps104
    go_wp2_with fail
    go_ret
    exact ⟨by unfold pwm; rw [Int.pow_zero]; rfl, 0, rfl⟩
  | succ f ih =>
    intro a n m w hf hn ha ha' hm hm'
    have hmz : ¬ m = 0 := by omega
    by_cases h0 : n = 0
    · subst h0
      clear ih
      go_enter Try.func104, Try.ntmps104
      go_wp2_with fail
      go_ret
      exact ⟨by unfold pwm; rw [Int.pow_zero]; rfl, 0, rfl⟩
    · have hz : ((n : Int) == 0) = false := by simp; omega
      obtain ⟨x0, x1⟩ := pwm_nonneg a (n / 2) hm
      obtain ⟨q0, q1⟩ := prod_bd (M := 1000000) x0 (by omega) x0 (by omega)
      have hh := pwm_half a (n / 2 * 2 / 2) m
      have c := Lib.hid (fun W => ih a (n / 2) m W (by rw [Nat.pow_succ] at hf; omega) (by omega) ha ha' hm hm')
      have hhalf : Hid (pwm a (n / 2) m * pwm a (n / 2) m % m = pwm a (2 * (n / 2)) m) := pwm_half a n m
      clear ih hh
      rcases Nat.mod_two_eq_zero_or_one n with hp | hp
      · have hb : ((n : Int) % 2 == 1) = false := by simp; omega
        have hR : Hid (pwm a (n / 2) m * pwm a (n / 2) m % m = pwm a n m) := by
          show _ = _
          rw [hhalf.out]; congr 1; omega
        clear hp
        go_enter Try.func104, Try.ntmps104
        go_wp2_with fail
        refine (c.out _).mono ?_; rintro e w' ⟨rfl, n1, rfl⟩
        go_wp2_with fail
        go_ret
        exact ⟨ret_int hR.out, _, rfl⟩
      · have hb : ((n : Int) % 2 == 1) = true := by simp; omega
        have y0 : 0 ≤ pwm a (n / 2) m * pwm a (n / 2) m % m := Int.emod_nonneg _ hmz
        have y1 : pwm a (n / 2) m * pwm a (n / 2) m % m < m := Int.emod_lt_of_pos _ (by omega)
        have z0 : 0 ≤ a % m := Int.emod_nonneg _ hmz
        have z1 : a % m < m := Int.emod_lt_of_pos _ (by omega)
        obtain ⟨r0, r1⟩ := prod_bd (M := 1000000) y0 (by omega) z0 (by omega)
        have hR : Hid (pwm a (n / 2) m * pwm a (n / 2) m % m * (a % m) % m = pwm a n m) := by
          show _ = _
          rw [hhalf.out, pwm_succ]; congr 1; omega
        clear hp
        go_enter Try.func104, Try.ntmps104
        go_wp2_with fail
        refine (c.out _).mono ?_; rintro e w' ⟨rfl, n1, rfl⟩
        go_wp2_with fail
        refine (ref_mod a m _ ha ha' hm (by omega)).mono ?_; rintro e w' ⟨rfl, n2, rfl⟩
        go_wp2_with fail
        go_ret
        exact ⟨ret_int hR.out, _, rfl⟩
end Go.Proofs.Ytiljppeamdoocaa
