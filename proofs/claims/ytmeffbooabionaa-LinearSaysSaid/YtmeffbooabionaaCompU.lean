/- slices.Compact at uint16: the library's contract, laid at this program. (Printed by wip/tools/gen_compact.py for one seat: the numbers are that seat's.) -/
import Derived.Shelf.SlicesE.Compact
import Derived.Lib.OwnBridge
import Derived.Test.YtmeffbooabionaaRows
import Derived.Test.YtmeffbooabionaaFormK
import Derived.Test.YtmeffbooabionaaInsM
namespace Go.Proofs.Ytmeffbooabionaa
open Go.RowKit

def compu16_ren : Go.Shelf.Ren := ⟨fun | 43 => 39 | n => n, fun | 22 => 22 | 23 => 29 | 3 => 3 | 4 => 4 | 0 => 0 | n => n, fun | n => n⟩
theorem compu16 : Go.Proofs.SlLaysE.n43 Try.prog compu16_ren := {
  mixed := by kernel_rfl
  f43 := ⟨Try.f39.name, by decide, Try.func39.trans (congrArg some (by kernel_rfl))⟩
  t0 := Try.underlying0
  a0 := Try.isAgg0
  z0 := Try.sizeOf0
  v0 := Try.zeroValue0
  t3 := Try.underlying3
  a3 := Try.isAgg3
  z3 := Try.sizeOf3
  v3 := Try.zeroValue3
  t4 := Try.underlying4
  a4 := Try.isAgg4
  z4 := Try.sizeOf4
  v4 := Try.zeroValue4
  t22 := Try.underlying22
  a22 := Try.isAgg22
  z22 := Try.sizeOf22
  v22 := Try.zeroValue22
  a23 := Try.isAgg29
  z23 := Try.sizeOf29 }
/-- Neighbours that are alike are let go. -/
def cmpL (zs : List Int) : List Int := Lib.compactUpTo zs.toArray zs.length
theorem cmpL_len (zs : List Int) : (cmpL zs).length ≤ zs.length := by
  unfold cmpL Lib.compactUpTo
  rw [List.length_map]
  exact Nat.le_trans (List.length_filter_le _ _) (by simp)
theorem compact_u16 (zs : List Int) (n base g cap : Nat) (w : World) (hO : w.ownsRow base 29 1 (.slice (some ⟨g, 0, none⟩) n cap) n (zs.map (Value.int .u16))) :
    Calls Try.prog 39 #[.slice (some ⟨g, 0, none⟩) n cap] w fun e w' => e = .returned (.slice (some ⟨g, 0, none⟩) (cmpL zs).length cap) ∧ w'.ownsRow base 29 1 (.slice (some ⟨g, 0, none⟩) (cmpL zs).length cap) (cmpL zs).length ((cmpL zs).map (Value.int .u16)) ∧ w.grownBy w' (some g) := by
  obtain ⟨g', cap', hv, hb, hlt, hn, hm, hl, hH⟩ := Lib.holds_of_ownsRow hO (by intro h; cases h)
  cases hv
  have hsz : zs.toArray.size = n := by simpa using hl
  have h := AnyE.slices_Compact compu16 (Value.int .u16) (fun _ => rfl) (EqlAt.intD _ _ _) (NeqAt.intD _ _ _) 0 (fun w => by first | exact Try.zeroValue29 w | (rw [Try.zeroValue29]; rfl)) g 0 cap zs.toArray w hH (by rw [hsz]; unfold maxLen at hm; omega) (by omega)
  rw [hsz] at h
  have e1 : Lib.compactUpTo zs.toArray n = cmpL zs := by unfold cmpL; rw [hl]
  have hle := cmpL_len zs
  rw [e1] at h
  refine h.mono ?_
  rintro e w' ⟨rfl, q, rfl⟩
  refine ⟨rfl, ?_, ?_⟩
  · have h2 := Lib.ownsRow_putRow (q := q) (ys := cmpL zs ++ List.replicate (n - (cmpL zs).length) 0) (k := (cmpL zs).length) hO (by rw [List.length_append, List.length_replicate]; omega) (by omega)
    rw [List.take_left' rfl] at h2
    exact h2
  · have hb := Lib.below_putRow (q := q) (enc := Value.int .u16) (d := (cmpL zs ++ List.replicate (n - (cmpL zs).length) 0).toArray) (Below.refl g w) (Nat.le_refl g)
    refine ⟨hb.os, hb.tape, hb.output, hb.size, fun k hk hne => ?_⟩
    have : g ≠ k := fun e => hne (by rw [e])
    simp [Sort.putRow, Sort.mapBlock, Sort.ahead, Array.getElem?_modify, this]
end Go.Proofs.Ytmeffbooabionaa
