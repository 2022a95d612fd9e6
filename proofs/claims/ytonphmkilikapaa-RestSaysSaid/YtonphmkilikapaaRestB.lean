/- Contracts of rest.Inverse, rest.Order and of the reference's Coprime. -/
import Derived.Test.YtonphmkilikapaaRows
import Derived.Test.YtonphmkilikapaaRest
import Derived.Test.YtonphmkilikapaaOrderM
import Derived.Test.YtonphmkilikapaaGcdOf
namespace Go.Proofs.Ytonphmkilikapaa
open Go.RowKit

set_option maxRecDepth 20000 in
set_option maxHeartbeats 1000000 in
theorem rest_Inverse (a m : Int) (w : World) (ha : -9223372036854775808 ≤ a) (ha' : a ≤ 9223372036854775807) (hm : 1 ≤ m) (hm' : m ≤ 1000000) (hg : gI (a % m) m = 1) :
    Calls Try.prog 59 #[.int .i64 a, .int .i64 m] w fun e w' => e = .returned (.tuple #[.int .i64 (bezX (a % m) m), .int .i64 0]) ∧ ∃ n, w' = w.drewN n := by
  have b0 : 0 ≤ a % m := Int.emod_nonneg _ (by omega)
  have b1 : a % m < m := Int.emod_lt_of_pos _ (by omega)
  go_enter Try.func59, Try.ntmps59
  go_wp2_with (first | (go_at_call 68; refine (rest_Of a m _ ha ha' hm hm').mono ?_; rintro e w' ⟨rfl, n1, rfl⟩) | (go_at_call 42; refine (euclid_Bezout (a % m) m _ (by omega) (by omega) (by omega) (by omega)).mono ?_; rintro e w' ⟨rfl, n2, rfl⟩))
  go_ret2
  exact ⟨rfl, _, rfl⟩
set_option maxRecDepth 20000 in
set_option maxHeartbeats 1000000 in
theorem rest_Inverse_none (a m : Int) (w : World) (ha : -9223372036854775808 ≤ a) (ha' : a ≤ 9223372036854775807) (hm : 1 ≤ m) (hm' : m ≤ 1000000) (hg : gI (a % m) m ≠ 1) :
    Calls Try.prog 59 #[.int .i64 a, .int .i64 m] w fun e w' => e = .returned (.tuple #[.int .i64 0, .int .i64 4]) ∧ ∃ n, w' = w.drewN n := by
  have b0 : 0 ≤ a % m := Int.emod_nonneg _ (by omega)
  have b1 : a % m < m := Int.emod_lt_of_pos _ (by omega)
  have hb : (gI (a % m) m != 1) = true := by simpa using hg
  clear hg
  go_enter Try.func59, Try.ntmps59
  go_wp2_with (first | (go_at_call 68; refine (rest_Of a m _ ha ha' hm hm').mono ?_; rintro e w' ⟨rfl, n1, rfl⟩) | (go_at_call 42; refine (euclid_Bezout (a % m) m _ (by omega) (by omega) (by omega) (by omega)).mono ?_; rintro e w' ⟨rfl, n2, rfl⟩))
  go_ret2
  exact ⟨rfl, _, rfl⟩
set_option maxRecDepth 20000 in
set_option maxHeartbeats 400000 in
theorem rest_Inverse_bad (a m : Int) (w : World) (hm : m < 1 ∨ 1000000 < m) :
    Calls Try.prog 59 #[.int .i64 a, .int .i64 m] w fun e w' => e = .returned (.tuple #[.int .i64 0, .int .i64 1]) ∧ ∃ n, w' = w.drewN n := by
  go_enter Try.func59, Try.ntmps59
  go_wp2_with (go_at_call 68; refine (rest_Of_bad a m _ hm).mono ?_; rintro e w' ⟨rfl, n1, rfl⟩)
  go_ret2
  exact ⟨rfl, _, rfl⟩
/-- What the inverse is. -/
theorem bez_inv {a m : Int} (hm : 1 ≤ m) (hg : gI a m = 1) : 0 ≤ bezX a m ∧ bezX a m < m ∧ bezX a m * a % m = 1 % m := by
  obtain ⟨h1, h2, h3⟩ := bez_law a m (by omega)
  rw [hg] at h2 h3
  refine ⟨h1, by simp at h2; omega, ?_⟩
  rw [← h3, Int.add_mul_emod_self_right]
set_option maxHeartbeats 400000 in
theorem ref_Coprime (a b : Int) (w : World) (ha : -2305843009213693952 ≤ a) (ha' : a ≤ 2305843009213693952) (hb : -2305843009213693952 ≤ b) (hb' : b ≤ 2305843009213693952) :
    Calls Try.prog 73 #[.int .i64 a, .int .i64 b] w fun e w' => e = .returned (.bool (gI a b == 1)) ∧ w = w' := by
  go_enter Try.func73, Try.ntmps73
  go_wp2_with (go_at_call 45; refine (gcdOf a b _ ha ha' hb hb').mono ?_; rintro e w' ⟨rfl, rfl⟩)
  go_ret
  exact ⟨rfl, rfl⟩

noncomputable def ordI (a m : Int) : Nat := Classical.epsilon (IsOrder a m)
theorem ordI_spec {a m : Int} (hm : 1 ≤ m) (hg : gI (a % m) m = 1) : IsOrder (a % m) m (ordI (a % m) m) ∧ ordI (a % m) m ≤ m.toNat := by
  obtain ⟨k, hk, hkm⟩ := order_exists hm (bez_inv hm hg).2.2
  have hs := Classical.epsilon_spec (p := IsOrder (a % m) m) ⟨k, hk⟩
  refine ⟨hs, ?_⟩
  rcases Nat.lt_or_ge k (ordI (a % m) m) with h | h
  · exact absurd hk.2.1 (hs.2.2 k hk.1 h)
  · omega

set_option maxRecDepth 20000 in
set_option maxHeartbeats 1000000 in
theorem rest_Order (a m : Int) (w : World) (ha : -9223372036854775808 ≤ a) (ha' : a ≤ 9223372036854775807) (hm : 1 ≤ m) (hm' : m ≤ 1000000) (hg : gI (a % m) m = 1) :
    Calls Try.prog 70 #[.int .i64 a, .int .i64 m] w fun e w' => e = .returned (.tuple #[.int .i64 (ordI (a % m) m : Nat), .int .i64 0]) ∧ ∃ n, w' = w.drewN n := by
  obtain ⟨hord, hom⟩ := ordI_spec hm hg
  have HO := Lib.hid hord
  have HG := Lib.hid hg
  have hmz : ¬ m = 0 := by omega
  have b0 : 0 ≤ a % m := Int.emod_nonneg _ (by omega)
  have b1 : a % m < m := Int.emod_lt_of_pos _ (by omega)
  have hst : Hid (a % m = pwm (a % m) 1 m) := by
    show _ = _
    unfold pwm
    rw [Int.pow_succ, Int.pow_zero, Int.one_mul, Int.emod_emod]
  clear hord hg
  go_enter Try.func70, Try.ntmps70
  go_wp2_with (first | (go_at_call 59; refine (rest_Inverse a m _ ha ha' hm hm' HG.out).mono ?_; rintro e w' ⟨rfl, n1, rfl⟩) | (go_at_call 68; refine (rest_Of a m _ ha ha' hm hm').mono ?_; rintro e w' ⟨rfl, n2, rfl⟩))
  go_loopw [8, 9] (fun vx vk wr => ∃ (k : Nat) (x : Int), vk = .int .i64 k ∧ vx = .int .i64 x ∧ 1 ≤ k ∧ k ≤ ordI (a % m) m ∧ 0 ≤ x ∧ x < m ∧ Hid (x = pwm (a % m) k m) ∧ ∃ n, wr = w.drewN n) (fun _ vk _ => ordI (a % m) m - (intOf vk).toNat)
  case atStart => exact ⟨1, _, rfl, rfl, by omega, HO.out.1, b0, b1, hst, _, rfl⟩
  case round =>
    obtain ⟨k, x, rfl, rfl, hk1, hk2, hx0, hx1, hxe, n3, rfl⟩ := hrel
    by_cases hlast : k = ordI (a % m) m
    · have ht : (x == 1 % m) = true := by rw [hxe.out, hlast, HO.out.2.1]; simp
      have HL := Lib.hid hlast
      clear hlast
      go_wp2_with fail
      go_ret2
      exact ⟨by rw [← HL.out]; rfl, _, rfl⟩
    · have ht : (x == 1 % m) = false := by
        have := HO.out.2.2 k hk1 (by omega)
        rw [← hxe.out] at this
        simpa using this
      obtain ⟨p0, p1⟩ := prod_bd (M := 1000000) hx0 (by omega) b0 (by omega)
      have y0 : 0 ≤ x * (a % m) % m := Int.emod_nonneg _ hmz
      have y1 : x * (a % m) % m < m := Int.emod_lt_of_pos _ (by omega)
      have hn : Hid (x * (a % m) % m = pwm (a % m) (k + 1) m) := by
        show _ = _
        rw [← pwm_succ, Int.emod_emod, ← hxe.out]
      go_wp2_with fail
      go_roundw
      case rel => exact ⟨k + 1, _, by go_num, rfl, by omega, by omega, y0, y1, hn, _, rfl⟩
      case measure => simp [intOf]; omega

set_option maxRecDepth 20000 in
set_option maxHeartbeats 400000 in
theorem rest_Order_none (a m : Int) (w : World) (ha : -9223372036854775808 ≤ a) (ha' : a ≤ 9223372036854775807) (hm : 1 ≤ m) (hm' : m ≤ 1000000) (hg : gI (a % m) m ≠ 1) :
    Calls Try.prog 70 #[.int .i64 a, .int .i64 m] w fun e w' => e = .returned (.tuple #[.int .i64 0, .int .i64 4]) ∧ ∃ n, w' = w.drewN n := by
  have HG := Lib.hid hg
  clear hg
  go_enter Try.func70, Try.ntmps70
  go_wp2_with (go_at_call 59; refine (rest_Inverse_none a m _ ha ha' hm hm' HG.out).mono ?_; rintro e w' ⟨rfl, n1, rfl⟩)
  go_ret2
  exact ⟨rfl, _, rfl⟩
set_option maxRecDepth 20000 in
set_option maxHeartbeats 400000 in
theorem rest_Order_bad (a m : Int) (w : World) (hm : m < 1 ∨ 1000000 < m) :
    Calls Try.prog 70 #[.int .i64 a, .int .i64 m] w fun e w' => e = .returned (.tuple #[.int .i64 0, .int .i64 1]) ∧ ∃ n, w' = w.drewN n := by
  have HM := Lib.hid hm
  clear hm
  go_enter Try.func70, Try.ntmps70
  go_wp2_with (go_at_call 59; refine (rest_Inverse_bad a m _ HM.out).mono ?_; rintro e w' ⟨rfl, n1, rfl⟩)
  go_ret2
  exact ⟨rfl, _, rfl⟩
end Go.Proofs.Ytonphmkilikapaa
