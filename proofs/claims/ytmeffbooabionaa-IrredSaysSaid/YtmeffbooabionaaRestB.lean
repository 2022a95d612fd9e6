/- Contracts of rest.Inverse, rest.Order and of the reference's Coprime. -/
import Derived.Test.YtmeffbooabionaaRows
import Derived.Test.YtmeffbooabionaaRest
import Derived.Test.YtmeffbooabionaaOrderM
import Derived.Test.YtmeffbooabionaaGcdOf
set_option linter.unusedVariables false
set_option linter.unusedSimpArgs false
namespace Go.Proofs.Ytmeffbooabionaa
open Go.RowKit

set_option maxRecDepth 20000 in
set_option maxHeartbeats 1000000 in
theorem rest_Inverse (a m : Int) (w : World) (ha : -9223372036854775808 ≤ a) (ha' : a ≤ 9223372036854775807) (hm : 1 ≤ m) (hm' : m ≤ 1000000) (hg : gI (a % m) m = 1) :
    Calls Try.prog 96 #[.int .i64 a, .int .i64 m] w fun e w' => e = .returned (.tuple #[.int .i64 (bezX (a % m) m), .int .i64 0]) ∧ ∃ n, w' = w.drewN n := by
  have b0 : 0 ≤ a % m := Int.emod_nonneg _ (by omega)
  have b1 : a % m < m := Int.emod_lt_of_pos _ (by omega)
  go_enter Try.func96, Try.ntmps96
  go_wp2_with (first | (go_at_call 109; refine (rest_Of a m _ ha ha' hm hm').mono ?_; rintro e w' ⟨rfl, n1, rfl⟩) | (go_at_call 110; refine (euclid_Bezout (a % m) m _ (by omega) (by omega) (by omega) (by omega)).mono ?_; rintro e w' ⟨rfl, n2, rfl⟩))
  go_ret2
  exact ⟨rfl, _, rfl⟩
set_option maxRecDepth 20000 in
set_option maxHeartbeats 1000000 in
theorem rest_Inverse_none (a m : Int) (w : World) (ha : -9223372036854775808 ≤ a) (ha' : a ≤ 9223372036854775807) (hm : 1 ≤ m) (hm' : m ≤ 1000000) (hg : gI (a % m) m ≠ 1) :
    Calls Try.prog 96 #[.int .i64 a, .int .i64 m] w fun e w' => e = .returned (.tuple #[.int .i64 0, .int .i64 4]) ∧ ∃ n, w' = w.drewN n := by
  have b0 : 0 ≤ a % m := Int.emod_nonneg _ (by omega)
  have b1 : a % m < m := Int.emod_lt_of_pos _ (by omega)
  have hb : (gI (a % m) m != 1) = true := by simpa using hg
  clear hg
  go_enter Try.func96, Try.ntmps96
  go_wp2_with (first | (go_at_call 109; refine (rest_Of a m _ ha ha' hm hm').mono ?_; rintro e w' ⟨rfl, n1, rfl⟩) | (go_at_call 110; refine (euclid_Bezout (a % m) m _ (by omega) (by omega) (by omega) (by omega)).mono ?_; rintro e w' ⟨rfl, n2, rfl⟩))
  go_ret2
  exact ⟨rfl, _, rfl⟩
set_option maxRecDepth 20000 in
set_option maxHeartbeats 400000 in
theorem rest_Inverse_bad (a m : Int) (w : World) (hm : m < 1 ∨ 1000000 < m) :
    Calls Try.prog 96 #[.int .i64 a, .int .i64 m] w fun e w' => e = .returned (.tuple #[.int .i64 0, .int .i64 1]) ∧ ∃ n, w' = w.drewN n := by
  go_enter Try.func96, Try.ntmps96
  go_wp2_with (go_at_call 109; refine (rest_Of_bad a m _ hm).mono ?_; rintro e w' ⟨rfl, n1, rfl⟩)
  go_ret2
  exact ⟨rfl, _, rfl⟩
/-- What the inverse is. -/
theorem bez_inv {a m : Int} (hm : 1 ≤ m) (hg : gI a m = 1) : 0 ≤ bezX a m ∧ bezX a m < m ∧ bezX a m * a % m = 1 % m := by
  obtain ⟨h1, h2, h3⟩ := bez_law a m (by omega)
  rw [hg] at h2 h3
  refine ⟨h1, by simp at h2; omega, ?_⟩
  rw [← h3, Int.add_mul_emod_self_right]
noncomputable def ordI (a m : Int) : Nat := Classical.epsilon (IsOrder a m)
theorem ordI_spec {a m : Int} (hm : 1 ≤ m) (hg : gI (a % m) m = 1) : IsOrder (a % m) m (ordI (a % m) m) ∧ ordI (a % m) m ≤ m.toNat := by
  obtain ⟨k, hk, hkm⟩ := order_exists hm (bez_inv hm hg).2.2
  have hs := Classical.epsilon_spec (p := IsOrder (a % m) m) ⟨k, hk⟩
  refine ⟨hs, ?_⟩
  rcases Nat.lt_or_ge k (ordI (a % m) m) with h | h
  · exact absurd hk.2.1 (hs.2.2 k hk.1 h)
  · omega

end Go.Proofs.Ytmeffbooabionaa
