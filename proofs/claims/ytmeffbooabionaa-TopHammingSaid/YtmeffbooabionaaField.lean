/- Contracts of package field and of the reference's field. -/
import Derived.Test.YtmeffbooabionaaRows
import Derived.Test.YtmeffbooabionaaBase
import Derived.Test.YtmeffbooabionaaHmM6
set_option linter.unusedVariables false
set_option linter.unusedSimpArgs false
namespace Go.Proofs.Ytmeffbooabionaa
open Go.RowKit

theorem gm_zero (f a o : Nat) : gm f a 0 o = o := by
  induction f generalizing a with
  | zero => rfl
  | succ f ih => simp only [gm]; exact ih _
theorem ret_u8 {a b : Nat} (h : a = b) : Ending.returned (.int .u8 (a : Int)) = .returned (.int .u8 (b : Int)) := by rw [h]

theorem u8_and_one (a : Nat) (ha : a < 256) : bits .and .u8 (a : Int) 1 = ((a % 2 : Nat) : Int) := by
  have := u8_and_nat a 1 ha (by omega)
  rw [Nat.and_one_is_mod] at this
  exact this
set_option maxHeartbeats 1000000 in
theorem field_Mul (a b : Nat) (w : World) (ha : a < 256) (hb : b < 256) :
    Calls Try.prog 101 #[.int .u8 a, .int .u8 b] w fun e w' => e = .returned (.int .u8 (gmul a b : Nat)) ∧ w = w' := by
  go_enter Try.func101, Try.ntmps101
  go_wp2_with fail
  go_loop [1, 5, 6] (fun vb vx vo => ∃ y x o f : Nat, vb = .int .u8 y ∧ vx = .int .i64 x ∧ vo = .int .i64 o ∧ y < 256 ∧ x < 256 ∧ o < 256 ∧ Hid (y < 2 ^ f) ∧ Hid (gm f x y o = gmul a b)) (fun vb _ _ => (intOf vb).toNat)
  case atStart => exact ⟨b, a, 0, 8, rfl, rfl, rfl, hb, ha, by omega, hb, by show _ = _; unfold gmul; rfl⟩
  case round =>
    obtain ⟨y, x, o, f, rfl, rfl, rfl, hy, hx, ho, hf, hg⟩ := hrel
    by_cases h0 : y = 0
    · subst h0
      have hR : Hid (o = gmul a b) := by have := hg.out; rw [gm_zero] at this; exact this
      go_wp2_with fail
      go_ret
      exact ⟨ret_u8 hR.out, rfl⟩
    · have hx1 := i64_xor_nat o x (by omega) (by omega)
      have hx2 : bits .xor .i64 ((x : Int) * 2) 285 = ((x * 2 ^^^ 285 : Nat) : Int) := i64_xor_nat (x * 2) 285 (by omega) (by omega)
      obtain ⟨f, rfl⟩ : ∃ f', f = f' + 1 := by
        cases f with
        | zero => have := hf.out; simp at this; omega
        | succ f => exact ⟨f, rfl⟩
      have hf2 : Hid (y / 2 < 2 ^ f) := by have := hf.out; rw [Nat.pow_succ] at this; show _ < _; omega
      have hox := xor_lt256 ho hx
      have hg2 : Hid (gm f (xt x) (y / 2) (if y % 2 = 1 then o ^^^ x else o) = gmul a b) := hg.out
      have hxl := xt_lt hx
      have hlt : Hid (y / 2 < y) := Nat.div_lt_self (by omega) (by omega)
      have hpar : (y % 2 = 1 ∧ (bits .and .u8 (y : Int) 1 == 1) = true) ∨ (y % 2 = 0 ∧ (bits .and .u8 (y : Int) 1 == 1) = false) := by
        rw [u8_and_one y hy]
        rcases Nat.mod_two_eq_zero_or_one y with h | h <;> simp [h]
      by_cases h2 : 255 < x * 2
      · have hxt : Hid (x * 2 ^^^ 285 = xt x) := by show _ = _; unfold xt; rw [if_pos h2]
        rcases hpar with ⟨hp, hpb⟩ | ⟨hp, hpb⟩
        · have hg3 : Hid (gm f (xt x) (y / 2) (o ^^^ x) = gmul a b) := by have := hg2.out; rw [if_pos hp] at this; exact this
          clear hp
          go_wp2_with fail
          go_round
          case rel => exact ⟨y / 2, xt x, o ^^^ x, f, by go_num, by rw [← hxt.out], rfl, by omega, hxl, hox, hf2, hg3⟩
          case measure => have := hlt.out; simp [intOf]; omega
        · have hg3 : Hid (gm f (xt x) (y / 2) o = gmul a b) := by have := hg2.out; rw [if_neg (by omega)] at this; exact this
          clear hp
          go_wp2_with fail
          go_round
          case rel => exact ⟨y / 2, xt x, o, f, by go_num, by rw [← hxt.out], rfl, by omega, hxl, ho, hf2, hg3⟩
          case measure => have := hlt.out; simp [intOf]; omega
      · have hxt : Hid (x * 2 = xt x) := by show _ = _; unfold xt; rw [if_neg h2]
        rcases hpar with ⟨hp, hpb⟩ | ⟨hp, hpb⟩
        · have hg3 : Hid (gm f (xt x) (y / 2) (o ^^^ x) = gmul a b) := by have := hg2.out; rw [if_pos hp] at this; exact this
          clear hp
          go_wp2_with fail
          go_round
          case rel => exact ⟨y / 2, xt x, o ^^^ x, f, by go_num, by rw [← hxt.out]; rfl, rfl, by omega, hxl, hox, hf2, hg3⟩
          case measure => have := hlt.out; simp [intOf]; omega
        · have hg3 : Hid (gm f (xt x) (y / 2) o = gmul a b) := by have := hg2.out; rw [if_neg (by omega)] at this; exact this
          clear hp
          go_wp2_with fail
          go_round
          case rel => exact ⟨y / 2, xt x, o, f, by go_num, by rw [← hxt.out]; rfl, rfl, by omega, hxl, ho, hf2, hg3⟩
          case measure => have := hlt.out; simp [intOf]; omega

set_option maxHeartbeats 1000000 in
theorem field_Pow (a n : Nat) (w : World) (ha : a < 256) (hn : n < 9223372036854775808) :
    Calls Try.prog 121 #[.int .u8 a, .int .i64 n] w fun e w' => e = .returned (.tuple #[.int .u8 (gpow a n : Nat), .int .i64 0]) ∧ w = w' := by
  go_enter Try.func121, Try.ntmps121
  go_wp2_with fail
  go_loop [0, 1, 6] (fun va vn vo => ∃ x m o : Nat, va = .int .u8 x ∧ vn = .int .i64 m ∧ vo = .int .u8 o ∧ x < 256 ∧ m < 9223372036854775808 ∧ o < 256 ∧ Hid (gmul o (gpow x m) = gpow a n)) (fun _ vn _ => (intOf vn).toNat)
  case atStart => exact ⟨a, n, 1, rfl, rfl, rfl, ha, hn, by omega, by show _ = _; rw [one_gmul (gpow_lt n)]⟩
  case round =>
    obtain ⟨x, m, o, rfl, rfl, rfl, hx, hm, ho, hg⟩ := hrel
    by_cases h0 : m = 0
    · subst h0
      have hR : Hid (o = gpow a n) := by have := hg.out; simp only [gpow] at this; rw [gmul_one ho] at this; exact this
      go_wp2_with fail
      go_ret2
      exact ⟨by rw [← hR.out]; rfl, rfl⟩
    · have hpar : (m % 2 = 1 ∧ (bits .and .i64 (m : Int) 1 == 1) = true) ∨ (m % 2 = 0 ∧ (bits .and .i64 (m : Int) 1 == 1) = false) := by
        rw [i64_and_one m hm]
        rcases Nat.mod_two_eq_zero_or_one m with h | h <;> simp [h]
      have hlt : Hid (m / 2 < m) := Nat.div_lt_self (by omega) (by omega)
      have hsq : Hid (gpow (gmul x x) (m / 2) = gpow x (2 * (m / 2))) := gpow_sq hx _
      have hxx : gmul x x < 256 := gmul_lt hx
      rcases hpar with ⟨hp, hpb⟩ | ⟨hp, hpb⟩
      · have hg2 : Hid (gmul (gmul o x) (gpow (gmul x x) (m / 2)) = gpow a n) := by
          show _ = _
          rw [hsq.out, ← hg.out, gmul_assoc ho hx (gpow_lt _)]
          congr 1
          rw [gmul_comm hx (gpow_lt _)]
          show gpow x (2 * (m / 2) + 1) = _
          congr 1; omega
        clear hp
        have hox : gmul o x < 256 := gmul_lt ho
        go_wp2_with fail
        refine (field_Mul o x _ ho hx).mono ?_; rintro e w' ⟨rfl, rfl⟩
        go_wp2_with fail
        refine (field_Mul x x _ hx hx).mono ?_; rintro e w' ⟨rfl, rfl⟩
        go_wp2_with fail
        go_round
        case rel => exact ⟨gmul x x, m / 2, gmul o x, rfl, by go_num, rfl, hxx, by omega, hox, hg2⟩
        case measure => have := hlt.out; simp [intOf]; omega
      · have hg2 : Hid (gmul o (gpow (gmul x x) (m / 2)) = gpow a n) := by
          show _ = _
          rw [hsq.out, ← hg.out]
          congr 2; omega
        clear hp
        go_wp2_with fail
        refine (field_Mul x x _ hx hx).mono ?_; rintro e w' ⟨rfl, rfl⟩
        go_wp2_with fail
        go_round
        case rel => exact ⟨gmul x x, m / 2, o, rfl, by go_num, rfl, hxx, by omega, ho, hg2⟩
        case measure => have := hlt.out; simp [intOf]; omega
set_option maxHeartbeats 400000 in
theorem field_Pow_bad (a n : Int) (w : World) (hn : n < 0) :
    Calls Try.prog 121 #[.int .u8 a, .int .i64 n] w fun e w' => e = .returned (.tuple #[.int .u8 0, .int .i64 1]) ∧ w = w' := by
  go_enter Try.func121, Try.ntmps121
  go_wp2_with fail
  go_ret2
  exact ⟨rfl, rfl⟩

set_option maxHeartbeats 400000 in
theorem field_Inv (a : Nat) (w : World) (ha : a < 256) (h0 : a ≠ 0) :
    Calls Try.prog 100 #[.int .u8 a] w fun e w' => e = .returned (.tuple #[.int .u8 (ginv a : Nat), .int .i64 0]) ∧ w = w' := by
  have hz : ((a : Int) == 0) = false := by simp; omega
  have hi : Hid (ginv a = gpow a 254) := ginv_pow ha
  have c := Lib.hid (field_Pow a 254 w ha (by omega))
  go_enter Try.func100, Try.ntmps100
  go_wp2_with (go_at_call 121; refine (c.out).mono ?_; rintro e w' ⟨rfl, rfl⟩)
  go_ret2
  exact ⟨by rw [hi.out]; rfl, rfl⟩
set_option maxHeartbeats 400000 in
theorem field_Inv_zero (w : World) :
    Calls Try.prog 100 #[.int .u8 0] w fun e w' => e = .returned (.tuple #[.int .u8 0, .int .i64 5]) ∧ w = w' := by
  go_enter Try.func100, Try.ntmps100
  go_wp2_with fail
  go_ret2
  exact ⟨rfl, rfl⟩

end Go.Proofs.Ytmeffbooabionaa
