/- bytes.IndexByte: the library's contract, laid at this program. (Printed by wip/tools/gen_cycs.py for one seat: the numbers are that seat's.) -/
import Derived.Shelf.Bytes.SlSearch0
import Derived.Test.YtmgpohomgblkkaaDoorRows
namespace Go.Proofs.YtmgpohomgblkkaaDoor
open Go.Shelf Go.RowKit

def idxA_ren : Go.Shelf.Ren := ⟨fun | 187 => 32 | 255 => 50 | n => n, fun | 37 => 27 | 5 => 5 | 3 => 3 | n => n, fun | n => n⟩
theorem idxA : Go.Proofs.Lays.n187 Tryd.prog idxA_ren := {
  mixed := by kernel_rfl
  f187 := Tryd.func32.trans (congrArg some (by kernel_rfl))
  f255 := Tryd.func50.trans (congrArg some (by kernel_rfl))
  t3 := Tryd.underlying3
  a3 := Tryd.isAgg3
  z3 := Tryd.sizeOf3
  v3 := Tryd.zeroValue3
  t5 := Tryd.underlying5
  a5 := Tryd.isAgg5
  z5 := Tryd.sizeOf5
  v5 := Tryd.zeroValue5
  t37 := Tryd.underlying27
  a37 := Tryd.isAgg27
  z37 := Tryd.sizeOf27
  v37 := Tryd.zeroValue27 }
theorem byt_IndexByte (b o cap : Nat) (t : ByteArray) (cv : Int) (w : World) (hc : Lib.Bytes w b o t) :
    Calls Tryd.prog 32 #[.slice (some ⟨b, o, none⟩) t.size cap, .int .u8 cv] w fun e w' => e = .returned (.int .i64 (Lib.indexByte t.data.toList cv.toNat.toUInt8)) ∧ w' = w :=
  Any.bytes_IndexByte_bytes idxA b o cap t cv w hc
end Go.Proofs.YtmgpohomgblkkaaDoor
