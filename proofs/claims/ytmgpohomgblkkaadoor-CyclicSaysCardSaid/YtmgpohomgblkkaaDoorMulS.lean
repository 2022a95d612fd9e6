/- math/bits.Mul: the library's contract, laid at this program. (Printed by wip/tools/gen_cycs.py for one seat: the numbers are that seat's.) -/
import Derived.Shelf.Bits.Mul64
import Derived.Test.YtmgpohomgblkkaaDoorRows
namespace Go.Proofs.YtmgpohomgblkkaaDoor
open Go.Shelf Go.RowKit

def mulA_ren : Go.Shelf.Ren := ⟨fun | 212 => 16 | 263 => 28 | 264 => 29 | n => n, fun | 46 => 33 | 51 => 52 | 146 => 53 | 53 => 55 | 148 => 56 | n => n, fun | n => n⟩
theorem mulA : Go.Proofs.Lays.n212 Tryd.prog mulA_ren := {
  mixed := by kernel_rfl
  f212 := Tryd.func16.trans (congrArg some (by kernel_rfl))
  f263 := Tryd.func28.trans (congrArg some (by kernel_rfl))
  f264 := Tryd.func29.trans (congrArg some (by kernel_rfl))
  t46 := Tryd.underlying33
  a46 := Tryd.isAgg33
  z46 := Tryd.sizeOf33
  v46 := Tryd.zeroValue33
  t51 := Tryd.underlying52
  a51 := Tryd.isAgg52
  z51 := Tryd.sizeOf52
  v51 := Tryd.zeroValue52
  t53 := Tryd.underlying55
  a53 := Tryd.isAgg55
  z53 := Tryd.sizeOf55
  v53 := Tryd.zeroValue55
  t146 := Tryd.underlying53
  a146 := Tryd.isAgg53
  z146 := Tryd.sizeOf53
  v146 := Tryd.zeroValue53
  t148 := Tryd.underlying56
  a148 := Tryd.isAgg56
  z148 := Tryd.sizeOf56
  v148 := Tryd.zeroValue56 }
theorem bits_Mul (x y : Nat) (hx : x < 18446744073709551616) (hy : y < 18446744073709551616) (w : World) :
    Calls Tryd.prog 16 #[.int .u64 x, .int .u64 y] w fun e w' => e = .returned (.tuple #[.int .u64 ((x * y / 18446744073709551616 : Nat) : Int), .int .u64 ((x * y % 18446744073709551616 : Nat) : Int)]) ∧ w' = w :=
  Any.bits_Mul mulA x y hx hy w
end Go.Proofs.YtmgpohomgblkkaaDoor
