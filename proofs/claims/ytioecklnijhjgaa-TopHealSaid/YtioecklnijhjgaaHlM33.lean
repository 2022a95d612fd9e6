/- Contracts of math/bits.OnesCount and of the reference's Ones; package welch's Check. -/
import Derived.Test.YtioecklnijhjgaaRows
import Derived.Test.YtioecklnijhjgaaHlM31
import Derived.Test.YtioecklnijhjgaaHlM32
import Derived.Test.YtioecklnijhjgaaMem
import Derived.Lib.QuietBelow
import Derived.Below
namespace Go.Proofs.Ytioecklnijhjgaa
open Go.RowKit
end Go.Proofs.Ytioecklnijhjgaa
namespace Go.Proofs.Ytioecklnijhjgaa
open Go.RowKit

abbrev qV (n k w r : Int) : Value := .agg #[.int .i64 n, .int .i64 k, .int .i64 w, .int .i64 r]
def inB (x n : Int) : Bool := decide (1 ≤ x) && decide (x ≤ n)
def qErr (n k w r : Int) : Int := if n < 1 ∨ 10 < n ∨ inB k n = false ∨ inB w n = false ∨ inB r n = false then 1 else if w + r < n + k then 9 else 0
theorem inB_true {x n : Int} (h : inB x n = true) : 1 ≤ x ∧ x ≤ n := by simpa [inB] using h
theorem inB_false {x n : Int} (h : inB x n = false) : x < 1 ∨ n < x := by
  unfold inB at h
  rw [Bool.and_eq_false_iff, decide_eq_false_iff_not, decide_eq_false_iff_not] at h
  omega

theorem quorum_in (x n : Int) (b : Nat) (w : World) (hc : w.cell? ⟨b, 0, none⟩ = some (.int .i64 n)) :
    Calls Try.prog 36 #[.int .i64 x, .pointer (some ⟨b, 0, none⟩)] w fun e w' => e = .returned (.bool (inB x n)) ∧ w = w' := by
  go_enter Try.func36, Try.ntmps36
  by_cases h : 1 ≤ x
  · have h2 : decide (1 ≤ x) = true := decide_eq_true h
    unfold inB
    rw [h2]
    go_wp2_with fail
    go_ret
    exact ⟨by simp, rfl⟩
  · have h2 : decide (1 ≤ x) = false := decide_eq_false h
    unfold inB
    rw [h2]
    go_wp2_with fail
    go_ret
    exact ⟨by simp, rfl⟩
theorem below_alloc (w : World) (o : Obj) : Below w.heap.size w (w.alloc o) :=
  ⟨rfl, rfl, rfl, by show _ ≤ (w.heap.push o).size; rw [Array.size_push]; omega, fun k hk => by show (w.heap.push o)[k]? = _; rw [Array.getElem?_push, if_neg (by omega)]⟩
/-- What is decided of a quorum: the ways of Check. -/
theorem q_cases (n k wr r : Int) : (n < 1 ∧ qErr n k wr r = 1) ∨ (1 ≤ n ∧ 10 < n ∧ qErr n k wr r = 1) ∨ (1 ≤ n ∧ n ≤ 10 ∧ inB k n = false ∧ qErr n k wr r = 1) ∨ (1 ≤ n ∧ n ≤ 10 ∧ inB k n = true ∧ inB wr n = false ∧ qErr n k wr r = 1) ∨
    (1 ≤ n ∧ n ≤ 10 ∧ inB k n = true ∧ inB wr n = true ∧ inB r n = false ∧ qErr n k wr r = 1) ∨ (1 ≤ n ∧ n ≤ 10 ∧ inB k n = true ∧ inB wr n = true ∧ inB r n = true ∧ wr + r < n + k ∧ qErr n k wr r = 9) ∨
    (1 ≤ n ∧ n ≤ 10 ∧ inB k n = true ∧ inB wr n = true ∧ inB r n = true ∧ n + k ≤ wr + r ∧ qErr n k wr r = 0) := by
  unfold qErr
  by_cases h1 : n < 1
  · exact .inl ⟨h1, if_pos (.inl h1)⟩
  · by_cases h2 : 10 < n
    · exact .inr (.inl ⟨by omega, h2, if_pos (.inr (.inl h2))⟩)
    · cases h3 : inB k n
      · exact .inr (.inr (.inl ⟨by omega, by omega, rfl, if_pos (.inr (.inr (.inl rfl)))⟩))
      · cases h4 : inB wr n
        · exact .inr (.inr (.inr (.inl ⟨by omega, by omega, rfl, rfl, if_pos (.inr (.inr (.inr (.inl rfl))))⟩)))
        · cases h5 : inB r n
          · exact .inr (.inr (.inr (.inr (.inl ⟨by omega, by omega, rfl, rfl, rfl, if_pos (.inr (.inr (.inr (.inr rfl))))⟩))))
          · have hn : ¬ (n < 1 ∨ 10 < n ∨ true = false ∨ true = false ∨ true = false) := by simp; omega
            rw [if_neg hn]
            by_cases h6 : wr + r < n + k
            · exact .inr (.inr (.inr (.inr (.inr (.inl ⟨by omega, by omega, rfl, rfl, rfl, h6, if_pos h6⟩)))))
            · exact .inr (.inr (.inr (.inr (.inr (.inr ⟨by omega, by omega, rfl, rfl, rfl, by omega, if_neg h6⟩)))))
set_option maxRecDepth 100000 in
set_option maxHeartbeats 4000000 in
theorem quorum_Check (n k wr r : Int) (w : World) :
    Calls Try.prog 17 #[qV n k wr r] w fun e w' => e = .returned (.int .i64 (qErr n k wr r)) ∧ Below w.heap.size w w' := by
  have hb := Lib.hid (below_alloc w (.cells #[.int .i64 n, .int .i64 k, .int .i64 wr, .int .i64 r] 23))
  have hc0 : (w.alloc (.cells #[.int .i64 n, .int .i64 k, .int .i64 wr, .int .i64 r] 23)).cell? ⟨w.heap.size, 0, none⟩ = some (.int .i64 n) := by simp [World.cell?_alloc_new]
  have Ck := Lib.hid (quorum_in k n w.heap.size _ hc0)
  have Cw := Lib.hid (quorum_in wr n w.heap.size _ hc0)
  have Cr := Lib.hid (quorum_in r n w.heap.size _ hc0)
  clear hc0
  rcases q_cases n k wr r with ⟨a1, a0⟩ | ⟨a1, a2, a0⟩ | ⟨a1, a2, a3, a0⟩ | ⟨a1, a2, a3, a4, a0⟩ | ⟨a1, a2, a3, a4, a5, a0⟩ | ⟨a1, a2, a3, a4, a5, a6, a0⟩ | ⟨a1, a2, a3, a4, a5, a6, a0⟩
  · rw [a0]
    have d1 : decide (n < 1) = true := decide_eq_true a1
    clear a0
    go_enter Try.func17, Try.ntmps17
    go_wp2_with fail
    go_ret
    exact ⟨rfl, hb.out⟩
  · rw [a0]
    have d1 : decide (n < 1) = false := decide_eq_false (by omega)
    have d2 : decide (10 < n) = true := decide_eq_true a2
    clear a0
    go_enter Try.func17, Try.ntmps17
    go_wp2_with fail
    go_ret
    exact ⟨rfl, hb.out⟩
  · rw [a0]
    have d1 : decide (n < 1) = false := decide_eq_false (by omega)
    have d2 : decide (10 < n) = false := decide_eq_false (by omega)
    rw [a3] at Ck
    clear a0 a3
    go_enter Try.func17, Try.ntmps17
    go_wp2_with (go_at_call 36; with_reducible refine Ck.out.mono ?_; rintro e w' ⟨rfl, rfl⟩)
    go_ret
    exact ⟨rfl, hb.out⟩
  · rw [a0]
    have d1 : decide (n < 1) = false := decide_eq_false (by omega)
    have d2 : decide (10 < n) = false := decide_eq_false (by omega)
    rw [a3] at Ck
    rw [a4] at Cw
    clear a0 a3 a4
    go_enter Try.func17, Try.ntmps17
    go_wp2_with (go_at_call 36; first | (with_reducible refine Ck.out.mono ?_; rintro e w' ⟨rfl, rfl⟩) | (with_reducible refine Cw.out.mono ?_; rintro e w' ⟨rfl, rfl⟩))
    go_ret
    exact ⟨rfl, hb.out⟩
  · rw [a0]
    have d1 : decide (n < 1) = false := decide_eq_false (by omega)
    have d2 : decide (10 < n) = false := decide_eq_false (by omega)
    rw [a3] at Ck
    rw [a4] at Cw
    rw [a5] at Cr
    clear a0 a3 a4 a5
    go_enter Try.func17, Try.ntmps17
    go_wp2_with (go_at_call 36; first | (with_reducible refine Ck.out.mono ?_; rintro e w' ⟨rfl, rfl⟩) | (with_reducible refine Cw.out.mono ?_; rintro e w' ⟨rfl, rfl⟩) | (with_reducible refine Cr.out.mono ?_; rintro e w' ⟨rfl, rfl⟩))
    go_ret
    exact ⟨rfl, hb.out⟩
  · rw [a0]
    have d1 : decide (n < 1) = false := decide_eq_false (by omega)
    have d2 : decide (10 < n) = false := decide_eq_false (by omega)
    have b3 := inB_true a3
    have b4 := inB_true a4
    have b5 := inB_true a5
    have w1 : IntKind.i64.wrap (wr + r) = wr + r := IntWalk.i64_in _ (by omega)
    have w2 : IntKind.i64.wrap (n + k) = n + k := IntWalk.i64_in _ (by omega)
    have d6 : decide (wr + r < n + k) = true := decide_eq_true a6
    rw [a3] at Ck
    rw [a4] at Cw
    rw [a5] at Cr
    clear a0 a3 a4 a5 b3 b4 b5 a6
    go_enter Try.func17, Try.ntmps17
    go_wp2_with (go_at_call 36; first | (with_reducible refine Ck.out.mono ?_; rintro e w' ⟨rfl, rfl⟩) | (with_reducible refine Cw.out.mono ?_; rintro e w' ⟨rfl, rfl⟩) | (with_reducible refine Cr.out.mono ?_; rintro e w' ⟨rfl, rfl⟩))
    go_ret
    exact ⟨rfl, hb.out⟩
  · rw [a0]
    have d1 : decide (n < 1) = false := decide_eq_false (by omega)
    have d2 : decide (10 < n) = false := decide_eq_false (by omega)
    have b3 := inB_true a3
    have b4 := inB_true a4
    have b5 := inB_true a5
    have w1 : IntKind.i64.wrap (wr + r) = wr + r := IntWalk.i64_in _ (by omega)
    have w2 : IntKind.i64.wrap (n + k) = n + k := IntWalk.i64_in _ (by omega)
    have d6 : decide (wr + r < n + k) = false := decide_eq_false (by omega)
    rw [a3] at Ck
    rw [a4] at Cw
    rw [a5] at Cr
    clear a0 a3 a4 a5 b3 b4 b5 a6
    go_enter Try.func17, Try.ntmps17
    go_wp2_with (go_at_call 36; first | (with_reducible refine Ck.out.mono ?_; rintro e w' ⟨rfl, rfl⟩) | (with_reducible refine Cw.out.mono ?_; rintro e w' ⟨rfl, rfl⟩) | (with_reducible refine Cr.out.mono ?_; rintro e w' ⟨rfl, rfl⟩))
    go_ret
    exact ⟨rfl, hb.out⟩
end Go.Proofs.Ytioecklnijhjgaa
