/- The small functions of package slices that the laws use, at their instances. -/
import Derived.Test.YtmgpohomgblkkaaDoorRows
import Derived.Test.YtmgpohomgblkkaaDoorBase
import Derived.Test.YtmgpohomgblkkaaDoorMem
namespace Go.Proofs.YtmgpohomgblkkaaDoor
open Go.RowKit

/-- Where the first of some values stands that a test lets by; -1 if there is none. -/
def idxI (p : Int → Bool) (zs : List Int) : Int := match zs.findIdx? p with | some i => (i : Int) | none => -1
theorem idxI_none {p : Int → Bool} {zs : List Int} (h : ∀ x ∈ zs, p x = false) : idxI p zs = -1 := by
  unfold idxI
  rw [List.findIdx?_eq_none_iff.2 (by simpa using h)]
theorem idxI_some {p : Int → Bool} {zs : List Int} {k : Nat} {x : Int} (hk : zs[k]? = some x) (hx : p x = true) (h : ∀ j y, j < k → zs[j]? = some y → p y = false) : idxI p zs = k := by
  have : zs.findIdx? p = some k := by
    rw [List.findIdx?_eq_some_iff_getElem]
    obtain ⟨hl, he⟩ := List.getElem?_eq_some_iff.1 hk
    refine ⟨hl, by rw [he]; exact hx, fun j hj => ?_⟩
    have := h j _ hj (List.getElem?_eq_getElem (by omega))
    simp [this]
  unfold idxI
  rw [this]

theorem idxI_nonneg (p : Int → Bool) (zs : List Int) : decide (0 ≤ idxI p zs) = zs.any p := by
  unfold idxI
  cases h : zs.findIdx? p with
  | none =>
    have h2 := List.findIdx?_eq_none_iff.1 h
    have : zs.any p = false := by simpa using h2
    rw [this]; rfl
  | some i =>
    have h2 := List.findIdx?_eq_some_iff_getElem.1 h
    obtain ⟨hl, hp, _⟩ := h2
    have : zs.any p = true := List.any_eq_true.2 ⟨_, List.getElem_mem hl, hp⟩
    rw [this]; simp

end Go.Proofs.YtmgpohomgblkkaaDoor
