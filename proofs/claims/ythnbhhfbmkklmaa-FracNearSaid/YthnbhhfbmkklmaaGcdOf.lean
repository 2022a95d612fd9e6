/- wholeref.GcdOf (Stein's road) gives the greatest common divisor; wholeref.Big tells numbers beyond ten to the ninth. -/
import Derived.Test.YthnbhhfbmkklmaaRows
import Derived.Test.YthnbhhfbmkklmaaBase
import Derived.Test.YthnbhhfbmkklmaaEuclidM
import Derived.Test.YthnbhhfbmkklmaaSlices
namespace Go.Proofs.Ythnbhhfbmkklmaa
open Go.RowKit

theorem gcd_half (c d : Nat) (hc : c % 2 = 0) (hd : d % 2 = 1) : Nat.gcd (c / 2) d = Nat.gcd c d := by
  have e : c = 2 * (c / 2) := by omega
  have h2 : Nat.Coprime 2 d := by
    rw [Nat.Coprime, Nat.gcd_rec, hd]; rfl
  rw [e, Nat.Coprime.gcd_mul_left_cancel _ h2]
  congr 1; omega
theorem gcd_half' (c d : Nat) (hc : c % 2 = 1) (hd : d % 2 = 0) : Nat.gcd c (d / 2) = Nat.gcd c d := by
  rw [Nat.gcd_comm, gcd_half d c hd hc, Nat.gcd_comm]
theorem gcd_both (c d t G : Nat) (hc : c % 2 = 0) (hd : d % 2 = 0) (h : Nat.gcd c d * 2 ^ t = G) : Nat.gcd (c / 2) (d / 2) * 2 ^ (t + 1) = G := by
  have e1 : c = 2 * (c / 2) := by omega
  have e2 : d = 2 * (d / 2) := by omega
  rw [e1, e2, Nat.gcd_mul_left] at h
  rw [← h, Nat.pow_succ]
  simp only [Nat.mul_assoc, Nat.mul_comm, Nat.mul_left_comm]
theorem or_even (c d : Nat) : (c ||| d) % 2 = 0 ↔ c % 2 = 0 ∧ d % 2 = 0 := by
  have h : ((c ||| d) % 2) = ((c % 2) ||| (d % 2)) := Nat.or_mod_two_pow (a := c) (b := d) (n := 1)
  rw [h]
  rcases Nat.mod_two_eq_zero_or_one c with h1 | h1 <;> rcases Nat.mod_two_eq_zero_or_one d with h2 | h2 <;> simp [h1, h2]

theorem gcd_less (m n : Nat) (h : n ≤ m) : Nat.gcd n (m - n) = Nat.gcd m n := by
  obtain ⟨k, rfl⟩ := Nat.exists_eq_add_of_le h
  rw [Nat.add_sub_cancel_left, Nat.gcd_comm (n + k) n]; simp
set_option maxHeartbeats 1000000 in
theorem gcdOf (a b : Int) (w : World) (ha : -2305843009213693952 ≤ a) (ha' : a ≤ 2305843009213693952) (hb : -2305843009213693952 ≤ b) (hb' : b ≤ 2305843009213693952) :
    Calls Try.prog 91 #[.int .i64 a, .int .i64 b] w fun e w' => e = .returned (.int .i64 (gI a b)) ∧ w = w' := by
  obtain ⟨X, hX⟩ : ∃ X : Nat, (if a < -a then -a else a) = (X : Int) := ⟨a.natAbs, by split <;> omega⟩
  obtain ⟨Y, hY⟩ : ∃ Y : Nat, (if b < -b then -b else b) = (Y : Int) := ⟨b.natAbs, by split <;> omega⟩
  have hG : Hid (gI a b = ((Nat.gcd X Y : Nat) : Int)) := by
    show _ = _
    have h1 : X = a.natAbs := by split at hX <;> omega
    have h2 : Y = b.natAbs := by split at hY <;> omega
    rw [h1, h2]; rfl
  have hXm : X ≤ 2305843009213693952 := by split at hX <;> omega
  have hYm : Y ≤ 2305843009213693952 := by split at hY <;> omega
  by_cases x0 : X = 0 ∨ Y = 0
  · have hR : Hid ((X : Int) + (Y : Int) = gI a b) := by
      show _ = _
      rw [hG.out]; rcases x0 with h | h <;> simp [h]
    by_cases x1 : X = 0
    · have z : ((X : Int) == 0) = true := by simp [x1]
      clear x0 x1
      go_enter Try.func91, Try.ntmps91
      go_wp2
      go_ret
      exact ⟨ret_int hR.out, rfl⟩
    · have z : ((X : Int) == 0) = false := by simp [x1]
      have z2 : ((Y : Int) == 0) = true := by simp; omega
      clear x0 x1
      go_enter Try.func91, Try.ntmps91
      go_wp2
      go_ret
      exact ⟨ret_int hR.out, rfl⟩
  · have z : ((X : Int) == 0) = false := by simp; omega
    have z2 : ((Y : Int) == 0) = false := by simp; omega
    have x1 : 1 ≤ X := by omega
    have y1 : 1 ≤ Y := by omega
    clear x0
    go_enter Try.func91, Try.ntmps91
    go_wp2
    go_loop [0, 1, 5] (fun va vb vt => ∃ c d t : Nat, va = .int .i64 c ∧ vb = .int .i64 d ∧ vt = .int .i64 t ∧ 1 ≤ c ∧ 1 ≤ d ∧ c ≤ X ∧ d ≤ Y ∧ t ≤ 63 ∧ Hid (c * 2 ^ t ≤ X) ∧ Hid (Nat.gcd c d * 2 ^ t = Nat.gcd X Y)) (fun va _ _ => (intOf va).toNat)
    case atStart => exact ⟨X, Y, 0, rfl, rfl, rfl, x1, y1, Nat.le_refl _, Nat.le_refl _, by omega, by show _ ≤ _; simp, by show _ = _; simp⟩
    case round =>
      obtain ⟨c, d, t, rfl, rfl, rfl, hc, hd, hcX, hdY, ht, hp, hg⟩ := hrel
      have o1 := i64_or_nat c d (by omega) (by omega)
      have hor : c ||| d < 9223372036854775808 := Nat.or_lt_two_pow (n := 63) (by omega) (by omega)
      have o2 := i64_and_one (c ||| d) hor
      by_cases hev : c % 2 = 0 ∧ d % 2 = 0
      · have o3 : ((((c ||| d : Nat) : Int)) % 2 == 0) = true := by have := (or_even c d).2 hev; simp; omega
        have hp2 : Hid (c / 2 * 2 ^ (t + 1) ≤ X) := by
          have h1 := hp.out
          show _ ≤ _
          rw [Nat.pow_succ, Nat.mul_comm (2 ^ t) 2, ← Nat.mul_assoc]
          exact Nat.le_trans (Nat.mul_le_mul_right _ (by omega)) h1
        have hg2 : Hid (Nat.gcd (c / 2) (d / 2) * 2 ^ (t + 1) = Nat.gcd X Y) := gcd_both c d t _ hev.1 hev.2 hg.out
        have ht2 : t + 1 ≤ 63 := by
          have h1 := hp2.out
          have h2 : 1 * 2 ^ (t + 1) ≤ c / 2 * 2 ^ (t + 1) := Nat.mul_le_mul_right _ (by omega)
          have h3 : 2 ^ (t + 1) < 2 ^ 63 := by omega
          have := (Nat.pow_lt_pow_iff_right (a := 2) (by omega)).1 h3
          omega
        go_wp2
        go_round
        case rel => exact ⟨c / 2, d / 2, t + 1, by go_num, by go_num, by go_num, by omega, by omega, by omega, by omega, ht2, hp2, hg2⟩
        case measure => simp [intOf]; omega
      · have o3 : ((((c ||| d : Nat) : Int)) % 2 == 0) = false := by
          have := (not_congr (or_even c d)).2 hev
          simp; omega
        have hodd : c % 2 = 1 ∨ d % 2 = 1 := by omega
        have hgt : Hid (Nat.gcd c d * 2 ^ t = Nat.gcd X Y) := hg
        clear hev hp hg
        go_wp2
        go_loop [0, 1] (fun va vb => ∃ p q : Nat, va = .int .i64 p ∧ vb = .int .i64 q ∧ 1 ≤ p ∧ p ≤ 2305843009213693952 ∧ q ≤ 2305843009213693952 ∧ Hid (p % 2 = 1 ∨ q % 2 = 1) ∧ Hid (Nat.gcd p q * 2 ^ t = Nat.gcd X Y)) (fun va vb => (intOf va).toNat + (intOf vb).toNat)
        case atStart => exact ⟨c, d, rfl, rfl, hc, by omega, by omega, hodd, hgt⟩
        case round =>
          obtain ⟨p, q, rfl, rfl, hp1, hpm, hqm, hpq, hg⟩ := hrel
          by_cases hq : q = 0
          · subst hq
            have hR : Hid (wrap64 ((p : Int) * 2 ^ t) = gI a b) := by
              show _ = _
              have h1 := hg.out
              rw [Nat.gcd_zero_right] at h1
              have h2 : ((p : Int) * 2 ^ t) = ((p * 2 ^ t : Nat) : Int) := by push_cast; rfl
              rw [h2, h1, hG.out]
              have h3 : Nat.gcd X Y ≤ X := Nat.gcd_le_left _ (by omega)
              exact IntWalk.wrap64_in _ (by omega)
            go_wp2
            go_ret
            exact ⟨ret_int hR.out, rfl⟩
          · have hqz : ((q : Int) != 0) = true := by simp; omega
            go_wp2
            go_loop [0] (fun va => ∃ p2 : Nat, va = .int .i64 p2 ∧ 1 ≤ p2 ∧ p2 ≤ p ∧ Hid (p2 % 2 = 1 ∨ q % 2 = 1) ∧ Hid (Nat.gcd p2 q * 2 ^ t = Nat.gcd X Y)) (fun va => (intOf va).toNat)
            case atStart => exact ⟨p, rfl, hp1, Nat.le_refl _, hpq, hg⟩
            case round =>
              obtain ⟨p2, rfl, h1, h2, hodd2, hg2⟩ := hrel
              have o4 := i64_and_one p2 (by omega)
              rcases Nat.mod_two_eq_zero_or_one p2 with he | he
              · have o5 : (((p2 : Nat) : Int) % 2 == 0) = true := by simp; omega
                go_wp2
                go_round
                case rel => exact ⟨p2 / 2, by go_num, by omega, by omega, by have := hodd2.out; show _ ∨ _; omega, by
                  have := hodd2.out
                  have h3 := gcd_half p2 q he (by omega)
                  show _ = _; rw [h3]; exact hg2.out⟩
                case measure => simp [intOf]; omega
              · have o5 : (((p2 : Nat) : Int) % 2 == 0) = false := by simp; omega
                have HE : Hid (p2 % 2 = 1) := he
                clear he
                go_wp2
                go_loop [1] (fun vb => ∃ q2 : Nat, vb = .int .i64 q2 ∧ 1 ≤ q2 ∧ q2 ≤ q ∧ Hid (Nat.gcd p2 q2 * 2 ^ t = Nat.gcd X Y)) (fun vb => (intOf vb).toNat)
                case atStart => exact ⟨q, rfl, by omega, Nat.le_refl _, hg2⟩
                case round =>
                  obtain ⟨q2, rfl, h3, h4, hg3⟩ := hrel
                  have o6 := i64_and_one q2 (by omega)
                  rcases Nat.mod_two_eq_zero_or_one q2 with he2 | he2
                  · have o7 : (((q2 : Nat) : Int) % 2 == 0) = true := by simp; omega
                    go_wp2
                    go_round
                    case rel => exact ⟨q2 / 2, by go_num, by omega, by omega, by
                      have h5 := gcd_half' p2 q2 HE.out he2
                      show _ = _; rw [h5]; exact hg3.out⟩
                    case measure => simp [intOf]; omega
                  · have o7 : (((q2 : Nat) : Int) % 2 == 0) = false := by simp; omega
                    have HE2 : Hid (q2 % 2 = 1) := he2
                    clear he2
                    by_cases hsw : q2 < p2
                    · go_wp2
                      go_round
                      case rel => exact ⟨q2, p2 - q2, rfl, by go_num, h3, by omega, by omega, .inl HE2.out, by show _ = _; rw [gcd_less p2 q2 (by omega)]; exact hg3.out⟩
                      case measure => simp [intOf]; omega
                    · go_wp2
                      go_round
                      case rel => exact ⟨p2, q2 - p2, rfl, by go_num, h1, by omega, by omega, .inl HE.out, by show _ = _; rw [gcd_less q2 p2 (by omega), Nat.gcd_comm]; exact hg3.out⟩
                      case measure => simp [intOf]; omega

/-- A number beyond ten to the ninth. -/
def bigB (x : Int) : Bool := decide (x < -1000000000 ∨ 1000000000 < x)
end Go.Proofs.Ythnbhhfbmkklmaa
