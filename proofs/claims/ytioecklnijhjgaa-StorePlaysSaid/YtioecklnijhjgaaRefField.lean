/- The reference's field: Times, Power, Undo. -/
import Derived.Test.YtioecklnijhjgaaRows
import Derived.Test.YtioecklnijhjgaaPlM4
set_option linter.unusedVariables false
set_option linter.unusedSimpArgs false
namespace Go.Proofs.Ytioecklnijhjgaa
open Go.RowKit

theorem mod_next (b k : Nat) : b % 2 ^ k ^^^ (b / 2 ^ k % 2) * 2 ^ k = b % 2 ^ (k + 1) := by
  apply Nat.eq_of_testBit_eq
  intro j
  rw [Nat.testBit_xor, Nat.testBit_mod_two_pow, Nat.testBit_mod_two_pow]
  have hb : b.testBit k = decide (b / 2 ^ k % 2 = 1) := Nat.testBit_eq_decide_div_mod_eq
  rcases Nat.mod_two_eq_zero_or_one (b / 2 ^ k) with h | h
  · rw [h] at hb ⊢
    simp only [Nat.zero_mul, Nat.zero_testBit, Bool.xor_false]
    by_cases hj : j = k
    · subst hj; simp [hb]
    · have : (j < k) ↔ (j < k + 1) := by omega
      simp [this]
  · rw [h] at hb ⊢
    simp only [Nat.one_mul]
    by_cases hj : j = k
    · subst hj; rw [Nat.testBit_two_pow_self]; simp [hb]
    · rw [Nat.testBit_two_pow_of_ne (by omega)]
      have : (j < k) ↔ (j < k + 1) := by omega
      simp [this]
theorem cm_step (C a b i k : Nat) : (C ^^^ (a / 2 ^ i % 2 * (b % 2 ^ k)) * 2 ^ i) ^^^ (a / 2 ^ i % 2 * (b / 2 ^ k % 2)) * 2 ^ (i + k) = C ^^^ (a / 2 ^ i % 2 * (b % 2 ^ (k + 1))) * 2 ^ i := by
  rw [Nat.xor_assoc]
  congr 1
  rcases Nat.mod_two_eq_zero_or_one (a / 2 ^ i) with h | h
  · simp [h]
  · rw [h]
    simp only [Nat.one_mul]
    rw [← mod_next b k, mul_pow_xor]
    congr 1
    rw [Nat.mul_assoc, ← Nat.pow_add, Nat.add_comm k i]
set_option maxHeartbeats 1000000 in
theorem ref_Times (a b : Nat) (w : World) (ha : a < 256) (hb : b < 256) :
    Calls Try.prog 88 #[.int .u8 a, .int .u8 b] w fun e w' => e = .returned (.int .u8 (gmul a b : Nat)) ∧ ∃ n, w' = w.drewN n := by
  go_enter Try.func88, Try.ntmps88
  go_wp2_with fail
  go_loopw [5, 9] (fun vx vi wr => ∃ i x : Nat, vi = .int .i64 i ∧ vx = .int .i64 x ∧ i ≤ 8 ∧ x < 32768 ∧ Hid (x = cmulN i a b) ∧ ∃ n, wr = w.drewN n) (fun _ vi _ => 8 - (intOf vi).toNat)
  case atStart => exact ⟨0, 0, rfl, rfl, by omega, by omega, by show _ = _; rfl, 0, rfl⟩
  case round =>
    obtain ⟨i, x, rfl, rfl, hi, hx, hxe, n, rfl⟩ := hrel
    by_cases hi8 : i < 8
    · go_wp2_with fail
      obtain ⟨wo, hwo⟩ : ∃ wo : World, wo = w.drewN n := ⟨_, rfl⟩
      go_loopw [5, 12] (fun vx vk wr => ∃ k y : Nat, vk = .int .i64 k ∧ vx = .int .i64 y ∧ k ≤ 8 ∧ y < 32768 ∧ Hid (y = cmulN i a b ^^^ (a / 2 ^ i % 2 * (b % 2 ^ k)) * 2 ^ i) ∧ ∃ n, wr = w.drewN n) (fun _ vk _ => 8 - (intOf vk).toNat)
      case atStart => exact ⟨0, x, rfl, rfl, by omega, hx, by show _ = _; rw [← hxe.out]; simp [Nat.mod_one], n, rfl⟩
      case round =>
        obtain ⟨k, y, rfl, rfl, hk, hy, hye, n2, rfl⟩ := hrel
        by_cases hk8 : k < 8
        · go_wp2_with fail
          obtain ⟨p, hp⟩ : ∃ p, a / 2 ^ i % 2 = p := ⟨_, rfl⟩
          obtain ⟨q, hq⟩ : ∃ q, b / 2 ^ k % 2 = q := ⟨_, rfl⟩
          obtain ⟨r, hr⟩ : ∃ r, p * q = r := ⟨_, rfl⟩
          obtain ⟨S, hS⟩ : ∃ S, r * 2 ^ (i + k) = S := ⟨_, rfl⟩
          have hp1 : p ≤ 1 := by omega
          have hq1 : q ≤ 1 := by omega
          have hr1 : r ≤ 1 := by rw [← hr]; exact Nat.mul_le_mul hp1 hq1
          have hS1 : S ≤ 16384 := by
            rw [← hS]
            have h2 : 2 ^ (i + k) ≤ 2 ^ 14 := Nat.pow_le_pow_right (by omega) (by omega)
            have := Nat.mul_le_mul hr1 h2
            omega
          have e1 : bits .and .u8 ((a : Int) / 2 ^ i) 1 = (p : Int) := by
            have h1 : ((a : Int) / 2 ^ i) = ((a / 2 ^ i : Nat) : Int) := by push_cast; rfl
            rw [h1, u8_and_one _ (Nat.lt_of_le_of_lt (Nat.div_le_self _ _) ha), hp]
          have e2 : bits .and .u8 ((b : Int) / 2 ^ k) 1 = (q : Int) := by
            have h1 : ((b : Int) / 2 ^ k) = ((b / 2 ^ k : Nat) : Int) := by push_cast; rfl
            rw [h1, u8_and_one _ (Nat.lt_of_le_of_lt (Nat.div_le_self _ _) hb), hq]
          have e3 : IntKind.i64.wrap (p : Int) = p := IntWalk.i64_in _ (by omega)
          have e4 : IntKind.i64.wrap (q : Int) = q := IntWalk.i64_in _ (by omega)
          have e5 : (p : Int) * (q : Int) = (r : Int) := by rw [← hr]; push_cast; rfl
          have e5' : IntKind.i64.wrap (r : Int) = r := IntWalk.i64_in _ (by omega)
          have e6 : IntKind.i64.wrap ((i : Int) + k) = (i : Int) + k := IntWalk.i64_in _ (by omega)
          have e6' : ((i : Int) + k).toNat = i + k := by omega
          have e6'' : (0 : Int) ≤ (i : Int) + k := by omega
          have e6''' : (i : Int) + k ≤ 64 := by omega
          have e7 : IntKind.i64.wrap ((r : Int) * 2 ^ (i + k)) = (S : Int) := by
            have h1 : ((r : Int) * 2 ^ (i + k)) = (S : Int) := by rw [← hS]; push_cast; rfl
            rw [h1]; exact IntWalk.i64_in _ (by omega)
          have e8 := i64_xor_nat y S (by omega) (by omega)
          have hyS : y ^^^ S < 32768 := Nat.xor_lt_two_pow (n := 15) (by omega) (by omega)
          have hnew : Hid (y ^^^ S = cmulN i a b ^^^ (a / 2 ^ i % 2 * (b % 2 ^ (k + 1))) * 2 ^ i) := by
            show _ = _
            rw [hye.out, ← hS, ← hr, ← hp, ← hq]; exact cm_step _ _ _ _ _
          clear hp hq hr hS
          go_quiet (fail)
          clear e1 e2 e3 e4 e5 e5' e6 e6' e6'' e6''' e7 e8
          go_wp2_with fail
          go_roundw
          case rel => exact ⟨k + 1, y ^^^ S, by go_num, rfl, by omega, hyS, hnew, _, rfl⟩
          case measure => simp [intOf]; omega
        · obtain rfl : k = 8 := by omega
          have hfin : Hid (y = cmulN (i + 1) a b) := by
            show _ = _
            rw [hye.out, Nat.mod_eq_of_lt (show b < 2 ^ 8 from hb)]; rfl
          go_wp2_with fail
          go_roundw
          case rel => exact ⟨i + 1, y, by go_num, rfl, by omega, hy, hfin, _, rfl⟩
          case measure => simp [intOf]; omega
    · obtain rfl : i = 8 := by omega
      go_wp2_with fail
      go_loop [5, 8] (fun vx vk => ∃ j y : Nat, vk = .int .i64 ((j : Int) + 7) ∧ vx = .int .i64 y ∧ j ≤ 7 ∧ y < 32768 ∧ Hid (redN j y = redN 7 x)) (fun _ vk => (intOf vk).toNat)
      case atStart => exact ⟨7, x, rfl, rfl, by omega, hx, by show _ = _; rfl⟩
      case round =>
        obtain ⟨j, y, rfl, rfl, hj, hy, hred⟩ := hrel
        cases j with
        | zero =>
          have hfin : Hid (y % 256 = gmul a b) := by
            show _ = _
            rw [← timesN_eq ha hb]
            have h1 : y = redN 7 x := hred.out
            rw [h1, hxe.out]; rfl
          have hwr : IntKind.u8.wrap (y : Int) = ((y % 256 : Nat) : Int) := by rw [IntKind.wrap_u8]; rfl
          go_wp2_with fail
          go_ret
          exact ⟨by first | exact ret_u8 hfin.out | (rw [← hfin.out]; rfl), _, rfl⟩
        | succ j =>
          have h1 : ((y : Int) / 2 ^ (j + 1 + 7)) = ((y / 2 ^ (j + 8) : Nat) : Int) := by push_cast; rfl
          have h2 : bits .and .i64 ((y : Int) / 2 ^ (j + 1 + 7)) 1 = ((y / 2 ^ (j + 8) % 2 : Nat) : Int) := by
            rw [h1, i64_and_one _ (Nat.lt_of_le_of_lt (Nat.div_le_self _ _) (by omega))]
          have hC : 285 * 2 ^ j ≤ 18240 := by
            have h3 : 2 ^ j ≤ 2 ^ 6 := Nat.pow_le_pow_right (by omega) (by omega)
            omega
          have c1 : ((285 : Int) * 2 ^ j) = ((285 * 2 ^ j : Nat) : Int) := by rw [Int.natCast_mul, Int.natCast_pow]; rfl
          have t1 : ((j : Int) + 1 + 7 - 8).toNat = j := by omega
          have c2 : (0 : Int) ≤ 285 * 2 ^ j := by rw [c1]; omega
          have c3 : ((285 : Int) * 2 ^ j) ≤ 18240 := by rw [c1]; omega
          have c4 : IntKind.i64.wrap ((285 : Int) * 2 ^ j) = 285 * 2 ^ j := IntWalk.i64_in _ (by omega)
          have e8 : bits .xor .i64 (y : Int) (285 * 2 ^ j) = ((y ^^^ 285 * 2 ^ j : Nat) : Int) := by
            rw [c1]; exact i64_xor_nat y _ (by omega) (by omega)
          have hyC : y ^^^ 285 * 2 ^ j < 32768 := Nat.xor_lt_two_pow (n := 15) (by omega) (by omega)
          have hr2 : Hid (redN j (if y / 2 ^ (j + 8) % 2 = 1 then y ^^^ 285 * 2 ^ j else y) = redN 7 x) := hred.out
          rcases Nat.mod_two_eq_zero_or_one (y / 2 ^ (j + 8)) with h | h
          · have hb2 : (bits .and .i64 ((y : Int) / 2 ^ (j + 1 + 7)) 1 == 1) = false := by rw [h2, h]; rfl
            have hr3 : Hid (redN j y = redN 7 x) := by have := hr2.out; rw [if_neg (by omega)] at this; exact this
            clear h h1 h2 c1 hC
            go_wp2_with fail
            go_round
            case rel => exact ⟨j, y, by go_num, rfl, by omega, hy, hr3⟩
            case measure => simp only [intOf]; omega
          · have hb2 : (bits .and .i64 ((y : Int) / 2 ^ (j + 1 + 7)) 1 == 1) = true := by rw [h2, h]; rfl
            have hr3 : Hid (redN j (y ^^^ 285 * 2 ^ j) = redN 7 x) := by have := hr2.out; rw [if_pos h] at this; exact this
            clear h h1 h2 c1 hC
            go_wp2_with fail
            go_round
            case rel => exact ⟨j, y ^^^ 285 * 2 ^ j, by go_num, rfl, by omega, hyC, hr3⟩
            case measure => simp only [intOf]; omega

set_option maxHeartbeats 1000000 in
theorem ref_Undo (a : Nat) (w : World) (ha : a < 256) :
    Calls Try.prog 89 #[.int .u8 a] w fun e w' => e = .returned (.int .u8 (ginv a : Nat)) ∧ ∃ n, w' = w.drewN n := by
  have hu : Hid (∀ k, gpow a (2 ^ k) < 256) := fun k => gpow_lt _
  go_enter Try.func89, Try.ntmps89
  go_wp2_with fail
  go_loopw [0, 3, 4] (fun va vo vi wr => ∃ i x o : Nat, vi = .int .i64 i ∧ va = .int .u8 x ∧ vo = .int .u8 o ∧ i ≤ 7 ∧ x < 256 ∧ o < 256 ∧ Hid (x = gpow a (2 ^ i)) ∧ Hid (o = gpow a (2 ^ (i + 1) - 2)) ∧ ∃ n, wr = w.drewN n) (fun _ _ vi _ => 7 - (intOf vi).toNat)
  case atStart => exact ⟨0, a, 1, rfl, rfl, rfl, by omega, ha, by omega, by show _ = _; rw [Nat.pow_zero, gpow_one ha], by show _ = _; rfl, 0, rfl⟩
  case round =>
    obtain ⟨i, x, o, rfl, rfl, rfl, hi, hx, ho, hxe, hoe, n, rfl⟩ := hrel
    by_cases h7 : i < 7
    · have hxx : gmul x x < 256 := gmul_lt hx
      have hx2 : Hid (gmul x x = gpow a (2 ^ (i + 1))) := by
        show _ = _
        rw [hxe.out, ← gpow_add ha, Nat.pow_succ]; congr 1; omega
      have ho2 : gmul o (gmul x x) < 256 := gmul_lt ho
      have hoe2 : Hid (gmul o (gmul x x) = gpow a (2 ^ (i + 1 + 1) - 2)) := by
        show _ = _
        rw [hx2.out, hoe.out, ← gpow_add ha]
        congr 1
        have : 2 ≤ 2 ^ (i + 1) := Nat.pow_le_pow_right (n := 2) (by omega) (show 1 ≤ i + 1 by omega)
        rw [Nat.pow_succ 2 (i + 1)]; omega
      go_wp2_with fail
      refine (ref_Times x x _ hx hx).mono ?_; rintro e w' ⟨rfl, n2, rfl⟩
      go_wp2_with fail
      refine (ref_Times o (gmul x x) _ ho hxx).mono ?_; rintro e w' ⟨rfl, n3, rfl⟩
      go_wp2_with fail
      go_roundw
      case rel => exact ⟨i + 1, gmul x x, gmul o (gmul x x), by go_num, rfl, rfl, by omega, hxx, ho2, hx2, hoe2, _, rfl⟩
      case measure => simp [intOf]; omega
    · obtain rfl : i = 7 := by omega
      have hfin : Hid (o = ginv a) := by show _ = _; rw [hoe.out, ginv_pow ha]
      go_wp2_with fail
      go_ret
      exact ⟨ret_u8 hfin.out, _, rfl⟩

end Go.Proofs.Ytioecklnijhjgaa
