/- The reference's Ones. -/
import Derived.Test.YtmeffbooabionaaQuorumB
namespace Go.Proofs.Ytmeffbooabionaa
open Go.RowKit

set_option maxRecDepth 100000 in
set_option maxHeartbeats 2000000 in
theorem ref_Ones (a : Nat) (w : World) (ha : a < 65536) :
    Calls Try.prog 18 #[.int .i64 a] w fun e w' => e = .returned (.int .i64 (ones16 a : Nat)) ∧ w = w' := by
  go_enter Try.func18, Try.ntmps18
  go_wp2_with fail
  go_loop [3, 5] (fun vo vk => ∃ k : Nat, vk = .int .i64 k ∧ k ≤ 16 ∧ vo = .int .i64 (onesF a k : Nat)) (fun _ vk => 16 - (intOf vk).toNat)
  case atStart => exact ⟨0, rfl, by omega, rfl⟩
  case round =>
    obtain ⟨k, rfl, hk, rfl⟩ := hrel
    by_cases hk1 : k < 16
    · have b1 := onesF_le a k
      have hn : Hid (onesF a (k + 1) = onesF a k + a / 2 ^ k % 2) := rfl
      obtain ⟨u, hu⟩ : ∃ x, onesF a k = x := ⟨_, rfl⟩
      rw [hu] at b1 hn ⊢
      clear hu
      have e1 : bits .and .i64 ((a : Int) / 2 ^ k) 1 = ((a / 2 ^ k % 2 : Nat) : Int) := by
        have hle : a / 2 ^ k ≤ a := Nat.div_le_self _ _
        have h := i64_and_nat (a / 2 ^ k) 1 (by omega) (by omega)
        rw [Nat.and_one_is_mod] at h
        rw [← h]; push_cast; rfl
      obtain ⟨b, hb⟩ : ∃ x, a / 2 ^ k % 2 = x := ⟨_, rfl⟩
      have hb1 : b < 2 := by omega
      rw [hb] at e1 hn
      clear hb
      go_wp2_with fail
      go_round
      case rel => exact ⟨k + 1, by go_num, by omega, by rw [hn.out]; push_cast; rfl⟩
      case measure => simp [intOf]; omega
    · have hk2 : k = 16 := by omega
      subst hk2
      go_wp2_with fail
      go_ret
      exact ⟨rfl, rfl⟩
end Go.Proofs.Ytmeffbooabionaa
