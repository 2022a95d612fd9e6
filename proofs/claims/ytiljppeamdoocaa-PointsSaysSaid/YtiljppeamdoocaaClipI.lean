/- slices.Clip at ints. -/
import Derived.Test.YtiljppeamdoocaaRows
import Derived.Test.YtiljppeamdoocaaRow
namespace Go.Proofs.Ytiljppeamdoocaa
open Go.RowKit

theorem clip_int (ao : Option Addr) (n cap : Nat) (w : World) (h63 : cap ≤ 9223372036854775807) (hc : n ≤ cap) :
    Calls Try.prog 72 #[.slice ao n cap] w fun e w' => e = .returned (.slice ao n n) ∧ w' = w := by
  go_enter Try.func72, Try.ntmps72
  go_wp2_with fail
  go_ret
  exact ⟨rfl, rfl⟩
end Go.Proofs.Ytiljppeamdoocaa
