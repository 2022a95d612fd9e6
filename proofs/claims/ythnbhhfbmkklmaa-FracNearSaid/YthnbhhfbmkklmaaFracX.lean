/- frac.right and frac.Of. -/
import Derived.Test.YthnbhhfbmkklmaaRows
import Derived.Test.YthnbhhfbmkklmaaFracM
import Derived.Test.YthnbhhfbmkklmaaClipI
import Derived.Test.YthnbhhfbmkklmaaFracW
import Derived.RegionTactic
namespace Go.Proofs.Ythnbhhfbmkklmaa
open Go.RowKit

def rgB (P Q : Int) : Bool := decide (1 ≤ Q) && (decide (Q ≤ 1000000) && (decide (0 ≤ P) && decide (P ≤ 1000000)))
theorem rgB_iff {P Q : Int} : rgB P Q = true ↔ 1 ≤ Q ∧ Q ≤ 1000000 ∧ 0 ≤ P ∧ P ≤ 1000000 := by simp [rgB]
theorem below_alloc' (w : World) (o : Obj) : Below w.heap.size w (w.alloc o) := (Below.refl _ _).alloc (Nat.le_refl _) _
set_option maxRecDepth 20000 in
set_option maxHeartbeats 1000000 in
theorem frac_right (P Q : Int) (w : World) :
    Calls Try.prog 41 #[.agg #[.int .i64 P, .int .i64 Q]] w fun e w' => e = .returned (.bool (rgB P Q)) ∧ Below w.heap.size w w' := by
  have hb := Lib.hid (below_alloc' w (.cells #[.int .i64 P, .int .i64 Q] 23))
  unfold rgB
  go_enter Try.func41, Try.ntmps41
  cases d1 : decide (1 ≤ Q) with
  | false =>
    go_wp2_with fail
    go_ret
    exact ⟨rfl, hb.out⟩
  | true =>
    cases d2 : decide (Q ≤ 1000000) with
    | false =>
      go_wp2_with fail
      go_ret
      exact ⟨rfl, hb.out⟩
    | true =>
      cases d3 : decide (0 ≤ P) with
      | false =>
        go_wp2_with fail
        go_ret
        exact ⟨rfl, hb.out⟩
      | true =>
        cases d4 : decide (P ≤ 1000000) with
        | false =>
          go_wp2_with fail
          go_ret
          exact ⟨rfl, hb.out⟩
        | true =>
          go_wp2_with fail
          go_ret
          exact ⟨rfl, hb.out⟩
theorem own_set {w : World} {base e size : Nat} {v : Value} {n : Nat} {xs : List Value} (h : w.ownsRow base e size v n xs) {B j : Nat} (hB : B < base) (u : Value) : (w.setCell ⟨B, j, none⟩ u).ownsRow base e size v n xs := by
  refine ⟨h.1, ?_⟩
  rcases h.2 with hn | ⟨g, cap, cur, rfl, hbg, hg, rest⟩
  · exact .inl hn
  · exact .inr ⟨g, cap, cur, rfl, hbg, by rw [heap_set_far _ (by omega)]; exact hg, rest⟩
theorem i64Row : ElemRow Try.prog 3 (.int .i64 0) 1 8 := elemRow_of (by kernel_rfl) rfl (by omega)
def OfRet (zs : List Int) (w : World) (e : Ending) (w' : World) : Prop :=
  ∃ v, e = .returned (.tuple #[v, .int .i64 0]) ∧ (∃ ao, v = .slice ao zs.length zs.length ∧ Reads w' ao (zs.map (Value.int .i64))) ∧ Below w.heap.size w w'
end Go.Proofs.Ythnbhhfbmkklmaa
