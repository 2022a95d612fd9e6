/- Names: the numbers and limits of package api have the document's values. Conditions: none. -/
import Derived.Test.YtonphmkilikapaaRows
import Derived.Test.YtonphmkilikapaaEqualInt
namespace Go.Proofs.Ytonphmkilikapaa
open Go.RowKit
def theNames : List Int := [0, 1, 2, 3, 4, 5, 6, 7, 8, 9, 10, 11, 12, 1000000000, 1000000, 1000000, 6, 1000, 60, 60, 30, 40, 997, 12, 12, 12, 6, 200, 16, 20, 10, 64, 16, 60, 60, 10, 3, 8, 1000000, 8, 60, 4096, 1, 2, 3, 4, 5, 6, 7, 8]
set_option maxRecDepth 100000 in
set_option maxHeartbeats 1000000 in
theorem names_walk (w : World) : Calls Try.prog 3 #[] w fun e w' => e = .returned (.bool true) ∧ Below w.heap.size w w' := by
  have H : ∀ W : World, Calls Try.prog 15 #[.slice (some ⟨W.heap.size, 0, none⟩) 50 50, .slice (some ⟨W.heap.size + 1, 0, none⟩) 50 50]
      ((W.alloc (.cells (theNames.map (Value.int .i64)).toArray 3)).alloc (.cells (theNames.map (Value.int .i64)).toArray 3)) fun e w' => e = .returned (.bool true) ∧ ∃ n, w' = ((W.alloc (.cells (theNames.map (Value.int .i64)).toArray 3)).alloc (.cells (theNames.map (Value.int .i64)).toArray 3)).drewN n := fun W =>
    (equal_int theNames theNames _ _ 50 50 _ (by decide) (by decide) ((reads_new W _ _).alloc _) (reads_two W _ _ _)).mono fun e w' ⟨he, hw⟩ => ⟨by rw [he]; simp, hw⟩
  simp only [theNames, List.map_cons, List.map_nil] at H
  have HH := Lib.hid H
  clear H
  go_enter Try.func3, Try.ntmps3
  go_wp2_with fail
  refine (HH.out _).mono ?_
  rintro e w' ⟨rfl, n, rfl⟩
  go_wp2_with fail
  go_ret
  exact ⟨rfl, (by repeat (first | exact Below.refl _ _ | apply below_drewN | (refine Below.alloc ?_ (by simp) _)))⟩
end Go.Proofs.Ytonphmkilikapaa
