/- Contracts of package divide: Moebius, check, sums. -/
import Derived.Test.YtkincmkmkfiglaaRows
import Derived.Test.YtkincmkmkfiglaaFactor
import Derived.Test.YtkincmkmkfiglaaMultM
import Derived.Test.YtkincmkmkfiglaaGcdOf
import Derived.Test.YtkincmkmkfiglaaArgs
import Derived.Deep.RegionLaw
import Derived.Deep.DrawnRows
namespace Go.Proofs.Ytkincmkmkfiglaa
open Go.RowKit

theorem powCells_get (l : List (Nat × Nat)) (k : Nat) (a : Nat × Nat) (h : l[k]? = some a) : (powCells l)[k * 2]? = some (.int .i64 a.1) ∧ (powCells l)[k * 2 + 1]? = some (.int .i64 a.2) := by
  induction l generalizing k with
  | nil => simp at h
  | cons b l ih =>
    cases k with
    | zero => simp at h; subst h; simp [powCells]
    | succ k =>
      simp at h
      have := ih k h
      have e1 : (k + 1) * 2 = k * 2 + 2 := by omega
      rw [e1]
      simpa [powCells] using this
theorem take_snoc2 {α : Type} (l : List α) (k : Nat) (a : α) (h : l[k]? = some a) : l.take (k + 1) = l.take k ++ [a] := by
  obtain ⟨hl, he⟩ := List.getElem?_eq_some_iff.1 h
  rw [List.take_succ_eq_append_getElem hl, he]
theorem valL_zero {g : Nat → Nat → Int} {l : List (Nat × Nat)} {a : Nat × Nat} (ha : a ∈ l) (h : g a.1 a.2 = 0) : valL g l = 0 := by
  induction l with
  | nil => simp at ha
  | cons b l ih =>
    simp only [valL]
    rw [List.mem_cons] at ha
    rcases ha with ha | ha
    · subst ha; rw [h, Int.zero_mul]
    · rw [ih ha, Int.mul_zero]
end Go.Proofs.Ytkincmkmkfiglaa
