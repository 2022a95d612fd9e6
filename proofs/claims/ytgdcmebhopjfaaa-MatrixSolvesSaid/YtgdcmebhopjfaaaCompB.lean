/- slices.Compact at byte: the library's contract, laid at this program. (Printed by wip/tools/gen_compact.py for one seat: the numbers are that seat's.) -/
import Derived.Shelf.SlicesE.Compact
import Derived.Lib.OwnBridge
import Derived.Test.YtgdcmebhopjfaaaRows
import Derived.Test.YtgdcmebhopjfaaaFormK
import Derived.Test.YtgdcmebhopjfaaaInsM
namespace Go.Proofs.Ytgdcmebhopjfaaa
open Go.RowKit

def compu8_ren : Go.Shelf.Ren := ⟨fun | 43 => 119 | n => n, fun | 22 => 59 | 23 => 5 | 3 => 3 | 4 => 4 | 0 => 0 | n => n, fun | n => n⟩
theorem compu8 : Go.Proofs.SlLaysE.n43 Try.prog compu8_ren := {
  mixed := by kernel_rfl
  f43 := ⟨Try.f119.name, by decide, Try.func119.trans (congrArg some (by kernel_rfl))⟩
  t0 := Try.underlying0
  a0 := Try.isAgg0
  z0 := Try.sizeOf0
  v0 := Try.zeroValue0
  t3 := Try.underlying3
  a3 := Try.isAgg3
  z3 := Try.sizeOf3
  v3 := Try.zeroValue3
  t4 := Try.underlying4
  a4 := Try.isAgg4
  z4 := Try.sizeOf4
  v4 := Try.zeroValue4
  t22 := Try.underlying59
  a22 := Try.isAgg59
  z22 := Try.sizeOf59
  v22 := Try.zeroValue59
  a23 := Try.isAgg5
  z23 := Try.sizeOf5 }
/-- Neighbours that are alike are let go. -/
def cmpL (zs : List Int) : List Int := Lib.compactUpTo zs.toArray zs.length
theorem cmpL_len (zs : List Int) : (cmpL zs).length ≤ zs.length := by
  unfold cmpL Lib.compactUpTo
  rw [List.length_map]
  exact Nat.le_trans (List.length_filter_le _ _) (by simp)
theorem compact_u8 (zs : List Int) (n base g cap : Nat) (w : World) (hO : w.ownsRow base 5 1 (.slice (some ⟨g, 0, none⟩) n cap) n (zs.map (Value.int .u8))) :
    Calls Try.prog 119 #[.slice (some ⟨g, 0, none⟩) n cap] w fun e w' => e = .returned (.slice (some ⟨g, 0, none⟩) (cmpL zs).length cap) ∧ w'.ownsRow base 5 1 (.slice (some ⟨g, 0, none⟩) (cmpL zs).length cap) (cmpL zs).length ((cmpL zs).map (Value.int .u8)) ∧ w.grownBy w' (some g) := by
  obtain ⟨g', cap', hv, hb, hlt, hn, hm, hl, hH⟩ := Lib.holds_of_ownsRow hO (by intro h; cases h)
  cases hv
  have hsz : zs.toArray.size = n := by simpa using hl
  have h := AnyE.slices_Compact compu8 (Value.int .u8) (fun _ => rfl) (EqlAt.intD _ _ _) (NeqAt.intD _ _ _) 0 (fun w => by first | exact Try.zeroValue5 w | (rw [Try.zeroValue5]; rfl)) g 0 cap zs.toArray w hH (by rw [hsz]; unfold maxLen at hm; omega) (by omega)
  rw [hsz] at h
  have e1 : Lib.compactUpTo zs.toArray n = cmpL zs := by unfold cmpL; rw [hl]
  have hle := cmpL_len zs
  rw [e1] at h
  refine h.mono ?_
  rintro e w' ⟨rfl, q, rfl⟩
  refine ⟨rfl, ?_, ?_⟩
  · have h2 := Lib.ownsRow_putRow (q := q) (ys := cmpL zs ++ List.replicate (n - (cmpL zs).length) 0) (k := (cmpL zs).length) hO (by rw [List.length_append, List.length_replicate]; omega) (by omega)
    rw [List.take_left' rfl] at h2
    exact h2
  · have hb := Lib.below_putRow (q := q) (enc := Value.int .u8) (d := (cmpL zs ++ List.replicate (n - (cmpL zs).length) 0).toArray) (Below.refl g w) (Nat.le_refl g)
    refine ⟨hb.os, hb.tape, hb.output, hb.size, fun k hk hne => ?_⟩
    have : g ≠ k := fun e => hne (by rw [e])
    simp [Sort.putRow, Sort.mapBlock, Sort.ahead, Array.getElem?_modify, this]
end Go.Proofs.Ytgdcmebhopjfaaa
