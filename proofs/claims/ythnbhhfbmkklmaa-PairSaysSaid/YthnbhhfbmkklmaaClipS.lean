/- slices.Clip at strings. -/
import Derived.Test.YthnbhhfbmkklmaaRows
import Derived.Test.YthnbhhfbmkklmaaRow
namespace Go.Proofs.Ythnbhhfbmkklmaa
open Go.RowKit

theorem clip_str (ao : Option Addr) (n cap : Nat) (w : World) (h63 : cap ≤ 9223372036854775807) (hc : n ≤ cap) :
    Calls Try.prog 57 #[.slice ao n cap] w fun e w' => e = .returned (.slice ao n n) ∧ w' = w := by
  go_enter Try.func57, Try.ntmps57
  go_wp2_with fail
  go_ret
  exact ⟨rfl, rfl⟩
end Go.Proofs.Ythnbhhfbmkklmaa
