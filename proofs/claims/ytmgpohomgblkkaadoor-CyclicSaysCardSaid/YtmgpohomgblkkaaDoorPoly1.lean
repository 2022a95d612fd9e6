/- poly.Field, poly.Check and poly.checks. -/
import Derived.Test.YtmgpohomgblkkaaDoorRows
import Derived.Test.YtmgpohomgblkkaaDoorPrime
import Derived.Test.YtmgpohomgblkkaaDoorSlicesC
import Derived.Test.YtmgpohomgblkkaaDoorPolyM
import Derived.Test.YtmgpohomgblkkaaDoorTwo
namespace Go.Proofs.YtmgpohomgblkkaaDoor
open Go.RowKit

open Classical in
noncomputable def fldE (p : Int) : Int := if 2 ≤ p ∧ p ≤ 997 ∧ IsPr p.toNat then 0 else 1
def outF (p : Int) (c : Int) : Bool := decide (c < 0) || decide (p ≤ c)
noncomputable def polE (p : Int) (f : List Int) : Int :=
  if fldE p = 1 then 1 else if 40 < f.length then 2 else if f.any (outF p) = true then 1 else if 0 < f.length ∧ co f (f.length - 1) = 0 then 3 else 0
theorem fldE_zero {p : Int} (h : 2 ≤ p) (h2 : p ≤ 997) (h3 : IsPr p.toNat) : fldE p = 0 := by unfold fldE; rw [if_pos ⟨h, h2, h3⟩]
theorem fldE_one {p : Int} (h : ¬ (2 ≤ p ∧ p ≤ 997 ∧ IsPr p.toNat)) : fldE p = 1 := by unfold fldE; rw [if_neg h]
theorem fldE_cases (p : Int) : (fldE p = 0 ∧ 2 ≤ p ∧ p ≤ 997 ∧ IsPr p.toNat) ∨ fldE p = 1 := by
  unfold fldE
  split
  · exact .inl ⟨rfl, ‹_›⟩
  · exact .inr rfl
end Go.Proofs.YtmgpohomgblkkaaDoor
