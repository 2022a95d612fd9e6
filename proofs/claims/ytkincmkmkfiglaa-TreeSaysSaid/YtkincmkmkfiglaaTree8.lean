/- Contracts of the reference's split and TopOf. -/
import Derived.Test.YtkincmkmkfiglaaRows
import Derived.Test.YtkincmkmkfiglaaTree5
import Derived.Deep.QuietTactic
import Derived.BigQuiet
namespace Go.Proofs.Ytkincmkmkfiglaa
open Go.RowKit

set_option maxRecDepth 20000 in
theorem ref_split (n : Nat) (w : World) (h : 2 ≤ n) (h2 : n ≤ 16) :
    Calls Try.prog 109 #[.int .i64 n] w fun e w' => e = .returned (.int .i64 (splitN n : Nat)) ∧ w = w' := by
  go_enter Try.func109, Try.ntmps109
  go_wp2_with fail
  go_loop [3] (fun vk => ∃ j : Nat, vk = .int .i64 ((2 ^ j : Nat) : Int) ∧ j ≤ 3 ∧ 2 ^ j < n) (fun vk => 16 - (intOf vk).toNat)
  case atStart => exact ⟨0, rfl, by omega, by omega⟩
  case round =>
    obtain ⟨j, rfl, hj, hjn⟩ := hrel
    have hp : 2 ^ (j + 1) = 2 ^ j * 2 := Nat.pow_succ ..
    have hpos : 0 < 2 ^ j := Nat.pow_pos (by omega)
    by_cases hc : 2 ^ (j + 1) < n
    · have hj2 : j + 1 ≤ 3 := by
        rcases Nat.lt_or_ge j 3 with h | h
        · omega
        · have : j = 3 := by omega
          subst this
          omega
      obtain ⟨x, hx⟩ : ∃ x, 2 ^ j = x := ⟨_, rfl⟩
      obtain ⟨y, hy⟩ : ∃ y, 2 ^ (j + 1) = y := ⟨_, rfl⟩
      rw [hx] at hp hjn hpos ⊢
      rw [hy] at hp hc
      have HY := Lib.hid hy
      clear hx hy
      have HP := Lib.hid hp
      have b1 : (2 : Int) * x < n := by omega
      go_wp2_with fail
      go_round
      case rel => exact ⟨j + 1, by rw [HY.out, HP.out]; go_num, hj2, by rw [HY.out]; exact hc⟩
      case measure => simp [intOf]; omega
    · have hs := splitN_eq hjn (by omega)
      obtain ⟨x, hx⟩ : ∃ x, 2 ^ j = x := ⟨_, rfl⟩
      rw [hx] at hs hjn hp
      rw [hx]
      have b1 : ¬ (2 : Int) * x < n := by omega
      have HS := Lib.hid hs
      clear hx hs
      go_wp2_with fail
      go_ret
      exact ⟨ret_int (by rw [HS.out]), rfl⟩
end Go.Proofs.Ytkincmkmkfiglaa
