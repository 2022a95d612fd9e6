/- Contracts of rest.Inverse, rest.Order and of the reference's Coprime. -/
import Derived.Test.YtmgpohomgblkkaaDoorRows
import Derived.Test.YtmgpohomgblkkaaDoorRest
import Derived.Test.YtmgpohomgblkkaaDoorOrderM
import Derived.Test.YtmgpohomgblkkaaDoorGcdOf
namespace Go.Proofs.YtmgpohomgblkkaaDoor
open Go.RowKit

/-- What the inverse is. -/
theorem bez_inv {a m : Int} (hm : 1 ≤ m) (hg : gI a m = 1) : 0 ≤ bezX a m ∧ bezX a m < m ∧ bezX a m * a % m = 1 % m := by
  obtain ⟨h1, h2, h3⟩ := bez_law a m (by omega)
  rw [hg] at h2 h3
  refine ⟨h1, by simp at h2; omega, ?_⟩
  rw [← h3, Int.add_mul_emod_self_right]
noncomputable def ordI (a m : Int) : Nat := Classical.epsilon (IsOrder a m)
theorem ordI_spec {a m : Int} (hm : 1 ≤ m) (hg : gI (a % m) m = 1) : IsOrder (a % m) m (ordI (a % m) m) ∧ ordI (a % m) m ≤ m.toNat := by
  obtain ⟨k, hk, hkm⟩ := order_exists hm (bez_inv hm hg).2.2
  have hs := Classical.epsilon_spec (p := IsOrder (a % m) m) ⟨k, hk⟩
  refine ⟨hs, ?_⟩
  rcases Nat.lt_or_ge k (ordI (a % m) m) with h | h
  · exact absurd hk.2.1 (hs.2.2 k hk.1 h)
  · omega

end Go.Proofs.YtmgpohomgblkkaaDoor
