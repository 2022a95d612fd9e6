/- Contracts of the reference's QuorumErr, of Newer, quorum.Least, quorum.Meet. -/
import Derived.Test.YtkincmkmkfiglaaRows
import Derived.Test.YtkincmkmkfiglaaQuorum
namespace Go.Proofs.Ytkincmkmkfiglaa
open Go.RowKit

set_option maxRecDepth 100000 in
set_option maxHeartbeats 4000000 in
theorem ref_QuorumErr (n k wr r : Int) (w : World) :
    Calls Try.prog 17 #[qV n k wr r] w fun e w' => e = .returned (.int .i64 (qErr n k wr r)) ∧ Below w.heap.size w w' := by
  have hb := Lib.hid (below_alloc w (.cells #[.int .i64 n, .int .i64 k, .int .i64 wr, .int .i64 r] 23))
  have hq : qErr n k wr r = if n < 1 ∨ 10 < n ∨ min (min k wr) r < 1 ∨ n < max (max k wr) r then 1 else if wr + r < n + k then 9 else 0 := by
    unfold qErr inB
    simp only [Bool.and_eq_false_iff, decide_eq_false_iff_not]
    congr 1
    simp only [eq_iff_iff]
    omega
  rw [hq]
  clear hq
  by_cases n1 : n < 1
  · have d1 : decide (n < 1) = true := decide_eq_true n1
    rw [if_pos (Or.inl n1)]
    go_enter Try.func17, Try.ntmps17
    go_wp2_with fail
    go_ret
    exact ⟨rfl, hb.out⟩
  have d1 : decide (n < 1) = false := decide_eq_false n1
  by_cases n2 : 10 < n
  · have d2 : decide (10 < n) = true := decide_eq_true n2
    rw [if_pos (Or.inr (Or.inl n2))]
    go_enter Try.func17, Try.ntmps17
    go_wp2_with fail
    go_ret
    exact ⟨rfl, hb.out⟩
  have d2 : decide (10 < n) = false := decide_eq_false n2
  by_cases n3 : min (min k wr) r < 1
  · have hv : Hid ((if n < 1 ∨ 10 < n ∨ min (min k wr) r < 1 ∨ n < max (max k wr) r then (1 : Int) else if wr + r < n + k then 9 else 0) = 1) := if_pos (by omega)
    rw [hv.out]
    go_enter Try.func17, Try.ntmps17
    go_wp2_with fail
    all_goals first | (exfalso; omega) | (go_ret; exact ⟨rfl, hb.out⟩)
  by_cases n4 : n < max (max k wr) r
  · have hv : Hid ((if n < 1 ∨ 10 < n ∨ min (min k wr) r < 1 ∨ n < max (max k wr) r then (1 : Int) else if wr + r < n + k then 9 else 0) = 1) := if_pos (by omega)
    rw [hv.out]
    go_enter Try.func17, Try.ntmps17
    go_wp2_with fail
    all_goals first | (exfalso; omega) | (go_ret; exact ⟨rfl, hb.out⟩)
  rw [if_neg (by omega)]
  have w1 : IntKind.i64.wrap (wr + r) = wr + r := IntWalk.i64_in _ (by omega)
  have w2 : IntKind.i64.wrap (n + k) = n + k := IntWalk.i64_in _ (by omega)
  by_cases hs : wr + r < n + k
  · have d6 : decide (wr + r < n + k) = true := decide_eq_true hs
    rw [if_pos hs]
    go_enter Try.func17, Try.ntmps17
    go_wp2_with fail
    all_goals first | (exfalso; omega) | (go_ret; exact ⟨rfl, hb.out⟩)
  · have d6 : decide (wr + r < n + k) = false := decide_eq_false hs
    rw [if_neg hs]
    go_enter Try.func17, Try.ntmps17
    go_wp2_with fail
    all_goals first | (exfalso; omega) | (go_ret; exact ⟨rfl, hb.out⟩)
end Go.Proofs.Ytkincmkmkfiglaa
