/- Contracts of package binom (Mod, Times) and of the reference's binomial numbers. -/
import Derived.Test.YtonphmkilikapabRows
import Derived.Test.YtonphmkilikapabRestB
import Derived.Test.YtonphmkilikapabBinomM
import Derived.Test.YtonphmkilikapabPrime
import Derived.Test.YtonphmkilikapabMem
import Derived.StillTailTactics
namespace Go.Proofs.Ytonphmkilikapab
open Go.RowKit

theorem pr_gcd {p i : Nat} (hp : IsPr p) (h1 : 1 ≤ i) (h2 : i < p) : Nat.gcd i p = 1 := by
  have a1 : Nat.gcd i p ∣ p := Nat.gcd_dvd_right i p
  have a2 := Nat.le_of_dvd h1 (Nat.gcd_dvd_left i p)
  have a3 : 0 < Nat.gcd i p := Nat.gcd_pos_of_pos_left _ h1
  by_cases h : Nat.gcd i p = 1
  · exact h
  · exact absurd a1 (hp.2 _ (by omega) (by omega))
theorem pr_gI {p i : Nat} (hp : IsPr p) (h1 : 1 ≤ i) (h2 : i < p) : gI ((i : Int) % (p : Int)) p = 1 := by
  rw [Int.emod_eq_of_lt (by omega) (by omega)]
  unfold gI
  rw [Int.gcd_natCast_natCast, pr_gcd hp h1 h2]; rfl

theorem quo_bd (m p : Nat) : 0 ≤ (m : Int) / (p : Int) ∧ (m : Int) / (p : Int) ≤ m :=
  ⟨Int.ediv_nonneg (by omega) (by omega), Int.ediv_le_self _ (by omega)⟩

set_option maxHeartbeats 400000 in
theorem binom_exponent (n p : Nat) (w : World) (hn : n ≤ 1000000000) (hp : 2 ≤ p) (hp2 : p ≤ 1000) :
    Calls Try.prog 122 #[.int .i64 n, .int .i64 p] w fun e w' => e = .returned (.int .i64 (often n p : Nat)) ∧ w = w' := by
  have hpz : ¬ (p : Int) = 0 := by omega
  go_enter Try.func122, Try.ntmps122
  go_wp2_with fail
  go_loop [0, 5] (fun vn vo => ∃ m o : Nat, vn = .int .i64 m ∧ vo = .int .i64 o ∧ o + m ≤ n ∧ Hid (oft p m m o = often n p)) (fun vn _ => (intOf vn).toNat)
  case atStart => exact ⟨n, 0, rfl, rfl, by omega, rfl⟩
  case round =>
    obtain ⟨m, o, rfl, rfl, hb, hg⟩ := hrel
    by_cases hm : m = 0
    · subst hm
      have hR : Hid (o = often n p) := by show _ = _; have := hg.out; simpa [oft] using this
      go_wp2_with fail
      go_ret
      exact ⟨ret_int (by rw [hR.out]), rfl⟩
    · have h1 : m / p ≤ m / 2 := Nat.div_le_div_left hp (by omega)
      have h2 : Hid (m / p < m) := Nat.div_lt_self (by omega) (by omega)
      obtain ⟨q0, q1⟩ := quo_bd m p
      have hg2 : Hid (oft p (m / p) (m / p) (o + m / p) = often n p) := by
        show _ = _
        rw [← hg.out]
        obtain ⟨f, rfl⟩ : ∃ f, m = f + 1 := ⟨m - 1, by omega⟩
        rw [oft, if_neg hm]
        exact oft_fuel p hp _ _ _ _ (Nat.le_refl _) (by have := h2.out; omega)
      go_wp2_with fail
      go_round
      case rel => exact ⟨m / p, o + m / p, by push_cast; rfl, by push_cast; rfl, by omega, hg2⟩
      case measure =>
        have := h2.out
        have h3 : ((m / p : Nat) : Int) = (m : Int) / (p : Int) := Int.natCast_ediv ..
        simp [intOf]; omega

set_option maxHeartbeats 400000 in
theorem ref_Often (n p : Nat) (w : World) (hn : n ≤ 1000000000) (hp : 2 ≤ p) (hp2 : p ≤ 1000) :
    Calls Try.prog 54 #[.int .i64 n, .int .i64 p] w fun e w' => e = .returned (.int .i64 (often n p : Nat)) ∧ w = w' := by
  have hpz : ¬ (p : Int) = 0 := by omega
  go_enter Try.func54, Try.ntmps54
  go_wp2_with fail
  go_loop [0, 5] (fun vn vo => ∃ m o : Nat, vn = .int .i64 m ∧ vo = .int .i64 o ∧ o + m ≤ n ∧ Hid (oft p m m o = often n p)) (fun vn _ => (intOf vn).toNat)
  case atStart => exact ⟨n, 0, rfl, rfl, by omega, rfl⟩
  case round =>
    obtain ⟨m, o, rfl, rfl, hb, hg⟩ := hrel
    by_cases hm : m = 0
    · subst hm
      have hR : Hid (o = often n p) := by show _ = _; have := hg.out; simpa [oft] using this
      go_wp2_with fail
      go_ret
      exact ⟨ret_int (by rw [hR.out]), rfl⟩
    · have h1 : m / p ≤ m / 2 := Nat.div_le_div_left hp (by omega)
      have h2 : Hid (m / p < m) := Nat.div_lt_self (by omega) (by omega)
      obtain ⟨q0, q1⟩ := quo_bd m p
      have hg2 : Hid (oft p (m / p) (m / p) (o + m / p) = often n p) := by
        show _ = _
        rw [← hg.out]
        obtain ⟨f, rfl⟩ : ∃ f, m = f + 1 := ⟨m - 1, by omega⟩
        rw [oft, if_neg hm]
        exact oft_fuel p hp _ _ _ _ (Nat.le_refl _) (by have := h2.out; omega)
      go_wp2_with fail
      go_round
      case rel => exact ⟨m / p, o + m / p, by push_cast; rfl, by push_cast; rfl, by omega, hg2⟩
      case measure =>
        have := h2.out
        have h3 : ((m / p : Nat) : Int) = (m : Int) / (p : Int) := Int.natCast_ediv ..
        simp [intOf]; omega

set_option maxRecDepth 20000 in
set_option maxHeartbeats 1000000 in
theorem binom_small (n k p : Nat) (w : World) (hn : n < p) (hk : k < p) (hp : IsPr p) (hp2 : p ≤ 1000) :
    Calls Try.prog 121 #[.int .i64 n, .int .i64 k, .int .i64 p] w fun e w' => e = .returned (.int .i64 (ch n k % p : Nat)) ∧ ∃ m, w' = w.drewN m := by
  by_cases hkn : n < k
  · have hz : Hid (ch n k % p = 0) := by show _ = _; rw [ch_big n k hkn, Nat.zero_mod]
    go_enter Try.func121, Try.ntmps121
    go_wp2_with fail
    go_ret
    exact ⟨ret_int (by rw [hz.out]; rfl), 0, rfl⟩
  · have HP := Lib.hid hp
    have hp1 := hp.1
    have hpz : ¬ (p : Int) = 0 := by omega
    clear hp
    go_enter Try.func121, Try.ntmps121
    go_wp2_with fail
    go_loopw [7, 8] (fun vo vi wr => ∃ (i : Nat) (O : Int), vi = .int .i64 i ∧ vo = .int .i64 O ∧ 1 ≤ i ∧ i ≤ k + 1 ∧ 0 ≤ O ∧ O < p ∧ Hid (O = ((ch n (i - 1) % p : Nat) : Int)) ∧ ∃ m, wr = w.drewN m) (fun _ vi _ => k + 1 - (intOf vi).toNat)
    case atStart => exact ⟨1, 1, rfl, rfl, by omega, by omega, by omega, by omega, by show _ = _; rw [ch_zero, Nat.mod_eq_of_lt (by omega)]; rfl, 0, rfl⟩
    case round =>
      obtain ⟨i, O, rfl, rfl, hi1, hi2, hO, hO', hOe, m0, rfl⟩ := hrel
      by_cases hik : i ≤ k
      · have hb := bez_inv (a := (i : Int) % p) (m := (p : Int)) (by omega) (pr_gI HP.out hi1 (by omega))
        have hgi := Lib.hid (pr_gI HP.out hi1 (by omega : i < p))
        obtain ⟨I, hI⟩ : ∃ I, bezX ((i : Int) % p) p = I := ⟨_, rfl⟩
        rw [hI] at hb
        have HI := Lib.hid hI
        obtain ⟨b0, b1, b2⟩ := hb
        obtain ⟨p0, p1⟩ := prod_bd (M := 1000) hO (by omega) (show 0 ≤ (n : Int) - i + 1 by omega) (by omega)
        have r0 : 0 ≤ O * ((n : Int) - i + 1) % p := Int.emod_nonneg _ hpz
        have r1 : O * ((n : Int) - i + 1) % p < p := Int.emod_lt_of_pos _ (by omega)
        obtain ⟨q0, q1⟩ := prod_bd (M := 1000) r0 (by omega) b0 (by omega)
        have s0 : 0 ≤ O * ((n : Int) - i + 1) % p * I % p := Int.emod_nonneg _ hpz
        have s1 : O * ((n : Int) - i + 1) % p * I % p < p := Int.emod_lt_of_pos _ (by omega)
        have hnew : Hid (O * ((n : Int) - i + 1) % p * I % p = ((ch n (i + 1 - 1) % p : Nat) : Int)) := by
          show _ = _
          obtain ⟨t, rfl⟩ : ∃ t, i = t + 1 := ⟨i - 1, by omega⟩
          obtain ⟨J, rfl⟩ := Int.eq_ofNat_of_zero_le b0
          have h1 : J * (t + 1) % p = 1 % p := by
            rw [Int.emod_eq_of_lt (a := ((t + 1 : Nat) : Int)) (by omega) (by omega)] at b2
            exact_mod_cast b2
          have h2 := small_step h1 (rfl : ch n t % p = ch n t % p)
          rw [hOe.out, show (n : Int) - ((t + 1 : Nat) : Int) + 1 = ((n - t : Nat) : Int) by omega]
          rw [show t + 1 + 1 - 1 = t + 1 by omega, ← h2, show t + 1 - 1 = t by omega]
          push_cast; rfl
        clear hI b2
        go_wp2_with (go_at_call 104; refine (rest_Inverse (i : Int) (p : Int) _ (by omega) (by omega) (by omega) (by omega) hgi.out).mono ?_; rw [HI.out]; rintro e w' ⟨rfl, n1, rfl⟩)
        go_roundw
        case rel => exact ⟨i + 1, _, by go_num, rfl, by omega, by omega, s0, s1, hnew, _, rfl⟩
        case measure => simp [intOf]; omega
      · have hR : Hid (O = ((ch n k % p : Nat) : Int)) := by
          have := hOe.out
          rwa [show i - 1 = k by omega] at this
        go_wp2_with fail
        go_ret
        exact ⟨ret_int hR.out, _, rfl⟩
end Go.Proofs.Ytonphmkilikapab
