/- strings.Repeat: the library's contract, laid at this program. (Printed by wip/tools/gen_reps.py for one seat: the numbers are that seat's.) -/
import Derived.Shelf.Strings.Repeat
import Derived.Test.YthnbhhfbmkklmaaRows
namespace Go.Proofs.Ythnbhhfbmkklmaa
open Go.Shelf Go.RowKit

def repA_ren : Go.Shelf.Ren := ⟨fun | 105 => 66 | 212 => 95 | 99 => 96 | 165 => 97 | 166 => 98 | 170 => 99 | 169 => 100 | 263 => 127 | 264 => 128 | 206 => 129 | 240 => 130 | 241 => 131 | 276 => 143 | 277 => 144 | n => n, fun | 9 => 9 | 3 => 3 | 4 => 4 | 20 => 20 | 0 => 0 | 46 => 119 | 109 => 150 | 5 => 5 | 72 => 155 | 76 => 159 | 51 => 46 | 146 => 189 | 53 => 188 | 148 => 191 | 70 => 153 | 37 => 101 | 75 => 158 | 127 => 193 | 164 => 208 | 80 => 162 | n => n, fun | n => n⟩
theorem repA : Go.Proofs.Lays.n105 Try.prog repA_ren := {
  mixed := by kernel_rfl
  f99 := Try.func96.trans (congrArg some (by kernel_rfl))
  f105 := Try.func66.trans (congrArg some (by kernel_rfl))
  f165 := Try.func97.trans (congrArg some (by kernel_rfl))
  f166 := Try.func98.trans (congrArg some (by kernel_rfl))
  f169 := Try.func100.trans (congrArg some (by kernel_rfl))
  f170 := Try.func99.trans (congrArg some (by kernel_rfl))
  f206 := Try.func129.trans (congrArg some (by kernel_rfl))
  f212 := Try.func95.trans (congrArg some (by kernel_rfl))
  f240 := Try.func130.trans (congrArg some (by kernel_rfl))
  f241 := Try.func131.trans (congrArg some (by kernel_rfl))
  f263 := Try.func127.trans (congrArg some (by kernel_rfl))
  f264 := Try.func128.trans (congrArg some (by kernel_rfl))
  f276 := Try.func143.trans (congrArg some (by kernel_rfl))
  f277 := Try.func144.trans (congrArg some (by kernel_rfl))
  t0 := Try.underlying0
  a0 := Try.isAgg0
  z0 := Try.sizeOf0
  v0 := Try.zeroValue0
  t3 := Try.underlying3
  a3 := Try.isAgg3
  z3 := Try.sizeOf3
  v3 := Try.zeroValue3
  t4 := Try.underlying4
  a4 := Try.isAgg4
  z4 := Try.sizeOf4
  v4 := Try.zeroValue4
  t5 := Try.underlying5
  a5 := Try.isAgg5
  z5 := Try.sizeOf5
  v5 := Try.zeroValue5
  t9 := Try.underlying9
  a9 := Try.isAgg9
  z9 := Try.sizeOf9
  v9 := Try.zeroValue9
  t20 := Try.underlying20
  a20 := Try.isAgg20
  z20 := Try.sizeOf20
  v20 := Try.zeroValue20
  t37 := Try.underlying101
  a37 := Try.isAgg101
  z37 := Try.sizeOf101
  v37 := Try.zeroValue101
  t46 := Try.underlying119
  a46 := Try.isAgg119
  z46 := Try.sizeOf119
  v46 := Try.zeroValue119
  t51 := Try.underlying46
  a51 := Try.isAgg46
  z51 := Try.sizeOf46
  v51 := Try.zeroValue46
  t53 := Try.underlying188
  a53 := Try.isAgg188
  z53 := Try.sizeOf188
  v53 := Try.zeroValue188
  t70 := Try.underlying153
  a70 := Try.isAgg153
  z70 := Try.sizeOf153
  v70 := Try.zeroValue153
  t72 := Try.underlying155
  a72 := Try.isAgg155
  z72 := Try.sizeOf155
  v72 := Try.zeroValue155
  t75 := Try.underlying158
  a75 := Try.isAgg158
  z75 := Try.sizeOf158
  v75 := Try.zeroValue158
  t76 := Try.underlying159
  a76 := Try.isAgg159
  z76 := Try.sizeOf159
  v76 := Try.zeroValue159
  t109 := Try.underlying150
  a109 := Try.isAgg150
  z109 := Try.sizeOf150
  v109 := Try.zeroValue150
  t127 := Try.underlying193
  a127 := Try.isAgg193
  z127 := Try.sizeOf193
  v127 := Try.zeroValue193
  t146 := Try.underlying189
  a146 := Try.isAgg189
  z146 := Try.sizeOf189
  v146 := Try.zeroValue189
  t148 := Try.underlying191
  a148 := Try.isAgg191
  z148 := Try.sizeOf191
  v148 := Try.zeroValue191
  t164 := Try.underlying208
  a164 := Try.isAgg208
  z164 := Try.sizeOf208
  v164 := Try.zeroValue208 }
theorem repAX : Builder.Extra Try.prog repA_ren := {
  sizeBuilder := by kernel_rfl
  liesBuilder := by kernel_rfl
  t5 := Try.underlying5
  a5 := Try.isAgg5
  z5 := Try.sizeOf5
  v5 := Try.zeroValue5
  infoByte := by kernel_rfl
  cellsByte := by kernel_rfl
  sizeByte := by kernel_rfl
  neB5 := by decide }
theorem str_Repeat (s : ByteArray) (c : Nat) (w : World) (hc : c ≤ 9223372036854775807) (hlen : s.size * c ≤ 140737488355328) :
    Calls Try.prog 66 #[.string s, .int .i64 c] w fun e w' => e = .returned (.string ⟨(Lib.repeatL s.data.toList c).toArray⟩) ∧ Below w.heap.size w w' :=
  Any.strings_Repeat repA repAX s c w hc hlen
end Go.Proofs.Ythnbhhfbmkklmaa
