/- The heap behind a store. Laws over whatever program. -/
import Derived.Test.YtmgpohomgblkkaaDoorTwo
namespace Go.Proofs.YtmgpohomgblkkaaDoor
open Go.RowKit

theorem heap_cell {W : World} {B : Nat} {cs : Array Value} {t : TypeId} {fr : Nat × Nat} (h : W.heap[B]? = some (.cells cs t fr)) (j : Nat) : W.cell? ⟨B, j, none⟩ = cs[j]? := cell_of_row W B j cs t fr h
theorem heap_frozen {W : World} {B : Nat} {cs : Array Value} {t : TypeId} (h : W.heap[B]? = some (.cells cs t (0, 0))) (j : Nat) : W.frozen? ⟨B, j, none⟩ = false := by simp [World.frozen?, h]
theorem heap_set {W : World} {B j : Nat} {cs : Array Value} {t : TypeId} {fr : Nat × Nat} (v : Value) (h : W.heap[B]? = some (.cells cs t fr)) : (W.setCell ⟨B, j, none⟩ v).heap[B]? = some (.cells (cs.setIfInBounds j v) t fr) := by
  obtain ⟨hlt, hk⟩ := Array.getElem?_eq_some_iff.1 h
  show (W.heap.modify B _)[B]? = _
  rw [Array.getElem?_eq_getElem (by rw [Array.size_modify]; exact hlt), Array.getElem_modify_self, hk]
  rfl
theorem heap_set_far {W : World} {B B' j : Nat} (v : Value) (hne : B ≠ B') : (W.setCell ⟨B, j, none⟩ v).heap[B']? = W.heap[B']? := Below.heap_setCell _ _ _ B' (fun e => hne e.symm)
theorem below_set {n₀ B j : Nat} {A W : World} (h : Below n₀ A W) (hB : n₀ ≤ B) (v : Value) : Below n₀ A (W.setCell ⟨B, j, none⟩ v) := h.setCell (p := ⟨B, j, none⟩) hB v
end Go.Proofs.YtmgpohomgblkkaaDoor
