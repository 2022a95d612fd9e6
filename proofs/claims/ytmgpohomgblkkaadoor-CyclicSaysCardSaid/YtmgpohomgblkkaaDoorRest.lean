/- Contracts of package rest (Of, Pow) and of the reference's rest and powers. -/
import Derived.Test.YtmgpohomgblkkaaDoorRows
import Derived.Test.YtmgpohomgblkkaaDoorBase
import Derived.Test.YtmgpohomgblkkaaDoorRestM
import Derived.Test.YtmgpohomgblkkaaDoorEuclid
namespace Go.Proofs.YtmgpohomgblkkaaDoor
open Go.RowKit

set_option maxHeartbeats 400000 in
theorem ref_Rest (a m : Int) (w : World) (ha : -9223372036854775808 ≤ a) (ha' : a ≤ 9223372036854775807) (hm : 1 ≤ m) (hm' : m ≤ 1000000000) :
    Calls Tryd.prog 62 #[.int .i64 a, .int .i64 m] w fun e w' => e = .returned (.int .i64 (a % m)) ∧ ∃ n, w' = w.drewN n := by
  have hmz : ¬ m = 0 := by omega
  have hz : (m == 0) = false := by simp; omega
  have l1 := Int.lt_tmod_of_pos a (b := m) (by omega)
  have l2 := Int.tmod_lt_of_pos a (b := m) (by omega)
  by_cases h : a.tmod m < 0
  · have hR : Hid (a.tmod m + m = a % m) := by
      show _ = _
      have := mod_up a m hm
      rw [Int.emod_eq_of_lt (by omega) (by omega)] at this
      exact this
    go_enter Tryd.func62, Tryd.ntmps62
    go_wp2
    go_ret
    exact ⟨ret_int hR.out, 0, rfl⟩
  · have hR : Hid (a.tmod m = a % m) := by
      show _ = _
      have := mod_up a m hm
      rw [Int.add_emod_right, Int.emod_eq_of_lt (by omega) (by omega)] at this
      exact this
    go_enter Tryd.func62, Tryd.ntmps62
    go_wp2
    go_ret
    exact ⟨ret_int hR.out, 0, rfl⟩
set_option maxHeartbeats 400000 in
theorem ref_mod (a m : Int) (w : World) (ha : -9223372036854775808 ≤ a) (ha' : a ≤ 9223372036854775807) (hm : 1 ≤ m) (hm' : m ≤ 1000000000) :
    Calls Tryd.prog 49 #[.int .i64 a, .int .i64 m] w fun e w' => e = .returned (.int .i64 (a % m)) ∧ ∃ n, w' = w.drewN n := by
  go_enter Tryd.func49, Tryd.ntmps49
  go_wp2_with (go_at_call 62; refine (ref_Rest a m _ ha ha' hm hm').mono ?_; rintro e w' ⟨rfl, n, rfl⟩)
  go_ret
  exact ⟨rfl, _, rfl⟩

end Go.Proofs.YtmgpohomgblkkaaDoor
