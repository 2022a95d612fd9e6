/- Contracts of package quorum, and of the reference's QuorumErr, Newer. -/
import Derived.Test.YtioecklnijhjgaaRows
import Derived.Test.YtioecklnijhjgaaPlM1
import Derived.Test.YtioecklnijhjgaaPlM16
import Derived.Test.YtioecklnijhjgaaPlM18
import Derived.Lib.QuietBelow
import Derived.Below
import Derived.Handy
set_option linter.unusedVariables false
set_option linter.unusedSimpArgs false
namespace Go.Proofs.Ytioecklnijhjgaa
open Go.RowKit

abbrev qV (n k w r : Int) : Value := .agg #[.int .i64 n, .int .i64 k, .int .i64 w, .int .i64 r]
def inB (x n : Int) : Bool := decide (1 ≤ x) && decide (x ≤ n)
def qErr (n k w r : Int) : Int := if n < 1 ∨ 10 < n ∨ inB k n = false ∨ inB w n = false ∨ inB r n = false then 1 else if w + r < n + k then 9 else 0
theorem inB_true {x n : Int} (h : inB x n = true) : 1 ≤ x ∧ x ≤ n := by simpa [inB] using h
theorem inB_false {x n : Int} (h : inB x n = false) : x < 1 ∨ n < x := by
  unfold inB at h
  rw [Bool.and_eq_false_iff, decide_eq_false_iff_not, decide_eq_false_iff_not] at h
  omega

theorem quorum_in (x n : Int) (b : Nat) (w : World) (hc : w.cell? ⟨b, 0, none⟩ = some (.int .i64 n)) :
    Calls Try.prog 36 #[.int .i64 x, .pointer (some ⟨b, 0, none⟩)] w fun e w' => e = .returned (.bool (inB x n)) ∧ w = w' := by
  go_enter Try.func36, Try.ntmps36
  by_cases h : 1 ≤ x
  · have h2 : decide (1 ≤ x) = true := decide_eq_true h
    unfold inB
    rw [h2]
    go_wp2_with fail
    go_ret
    exact ⟨by simp, rfl⟩
  · have h2 : decide (1 ≤ x) = false := decide_eq_false h
    unfold inB
    rw [h2]
    go_wp2_with fail
    go_ret
    exact ⟨by simp, rfl⟩
theorem below_alloc (w : World) (o : Obj) : Below w.heap.size w (w.alloc o) :=
  ⟨rfl, rfl, rfl, by show _ ≤ (w.heap.push o).size; rw [Array.size_push]; omega, fun k hk => by show (w.heap.push o)[k]? = _; rw [Array.getElem?_push, if_neg (by omega)]⟩
/-- What is decided of a quorum: the ways of Check. -/
theorem q_cases (n k wr r : Int) : (n < 1 ∧ qErr n k wr r = 1) ∨ (1 ≤ n ∧ 10 < n ∧ qErr n k wr r = 1) ∨ (1 ≤ n ∧ n ≤ 10 ∧ inB k n = false ∧ qErr n k wr r = 1) ∨ (1 ≤ n ∧ n ≤ 10 ∧ inB k n = true ∧ inB wr n = false ∧ qErr n k wr r = 1) ∨
    (1 ≤ n ∧ n ≤ 10 ∧ inB k n = true ∧ inB wr n = true ∧ inB r n = false ∧ qErr n k wr r = 1) ∨ (1 ≤ n ∧ n ≤ 10 ∧ inB k n = true ∧ inB wr n = true ∧ inB r n = true ∧ wr + r < n + k ∧ qErr n k wr r = 9) ∨
    (1 ≤ n ∧ n ≤ 10 ∧ inB k n = true ∧ inB wr n = true ∧ inB r n = true ∧ n + k ≤ wr + r ∧ qErr n k wr r = 0) := by
  unfold qErr
  by_cases h1 : n < 1
  · exact .inl ⟨h1, if_pos (.inl h1)⟩
  · by_cases h2 : 10 < n
    · exact .inr (.inl ⟨by omega, h2, if_pos (.inr (.inl h2))⟩)
    · cases h3 : inB k n
      · exact .inr (.inr (.inl ⟨by omega, by omega, rfl, if_pos (.inr (.inr (.inl rfl)))⟩))
      · cases h4 : inB wr n
        · exact .inr (.inr (.inr (.inl ⟨by omega, by omega, rfl, rfl, if_pos (.inr (.inr (.inr (.inl rfl))))⟩)))
        · cases h5 : inB r n
          · exact .inr (.inr (.inr (.inr (.inl ⟨by omega, by omega, rfl, rfl, rfl, if_pos (.inr (.inr (.inr (.inr rfl))))⟩))))
          · have hn : ¬ (n < 1 ∨ 10 < n ∨ true = false ∨ true = false ∨ true = false) := by simp; omega
            rw [if_neg hn]
            by_cases h6 : wr + r < n + k
            · exact .inr (.inr (.inr (.inr (.inr (.inl ⟨by omega, by omega, rfl, rfl, rfl, h6, if_pos h6⟩)))))
            · exact .inr (.inr (.inr (.inr (.inr (.inr ⟨by omega, by omega, rfl, rfl, rfl, by omega, if_neg h6⟩)))))
set_option maxRecDepth 100000 in
set_option maxHeartbeats 4000000 in
theorem quorum_Check (n k wr r : Int) (w : World) :
    Calls Try.prog 17 #[qV n k wr r] w fun e w' => e = .returned (.int .i64 (qErr n k wr r)) ∧ Below w.heap.size w w' := by
  have hb := Lib.hid (below_alloc w (.cells #[.int .i64 n, .int .i64 k, .int .i64 wr, .int .i64 r] 23))
  have hc0 : (w.alloc (.cells #[.int .i64 n, .int .i64 k, .int .i64 wr, .int .i64 r] 23)).cell? ⟨w.heap.size, 0, none⟩ = some (.int .i64 n) := by simp [World.cell?_alloc_new]
  have Ck := Lib.hid (quorum_in k n w.heap.size _ hc0)
  have Cw := Lib.hid (quorum_in wr n w.heap.size _ hc0)
  have Cr := Lib.hid (quorum_in r n w.heap.size _ hc0)
  clear hc0
  rcases q_cases n k wr r with ⟨a1, a0⟩ | ⟨a1, a2, a0⟩ | ⟨a1, a2, a3, a0⟩ | ⟨a1, a2, a3, a4, a0⟩ | ⟨a1, a2, a3, a4, a5, a0⟩ | ⟨a1, a2, a3, a4, a5, a6, a0⟩ | ⟨a1, a2, a3, a4, a5, a6, a0⟩
  · rw [a0]
    have d1 : decide (n < 1) = true := decide_eq_true a1
    clear a0
    go_enter Try.func17, Try.ntmps17
    go_wp2_with fail
    go_ret
    exact ⟨rfl, hb.out⟩
  · rw [a0]
    have d1 : decide (n < 1) = false := decide_eq_false (by omega)
    have d2 : decide (10 < n) = true := decide_eq_true a2
    clear a0
    go_enter Try.func17, Try.ntmps17
    go_wp2_with fail
    go_ret
    exact ⟨rfl, hb.out⟩
  · rw [a0]
    have d1 : decide (n < 1) = false := decide_eq_false (by omega)
    have d2 : decide (10 < n) = false := decide_eq_false (by omega)
    rw [a3] at Ck
    clear a0 a3
    go_enter Try.func17, Try.ntmps17
    go_wp2_with (go_at_call 36; with_reducible refine Ck.out.mono ?_; rintro e w' ⟨rfl, rfl⟩)
    go_ret
    exact ⟨rfl, hb.out⟩
  · rw [a0]
    have d1 : decide (n < 1) = false := decide_eq_false (by omega)
    have d2 : decide (10 < n) = false := decide_eq_false (by omega)
    rw [a3] at Ck
    rw [a4] at Cw
    clear a0 a3 a4
    go_enter Try.func17, Try.ntmps17
    go_wp2_with (go_at_call 36; first | (with_reducible refine Ck.out.mono ?_; rintro e w' ⟨rfl, rfl⟩) | (with_reducible refine Cw.out.mono ?_; rintro e w' ⟨rfl, rfl⟩))
    go_ret
    exact ⟨rfl, hb.out⟩
  · rw [a0]
    have d1 : decide (n < 1) = false := decide_eq_false (by omega)
    have d2 : decide (10 < n) = false := decide_eq_false (by omega)
    rw [a3] at Ck
    rw [a4] at Cw
    rw [a5] at Cr
    clear a0 a3 a4 a5
    go_enter Try.func17, Try.ntmps17
    go_wp2_with (go_at_call 36; first | (with_reducible refine Ck.out.mono ?_; rintro e w' ⟨rfl, rfl⟩) | (with_reducible refine Cw.out.mono ?_; rintro e w' ⟨rfl, rfl⟩) | (with_reducible refine Cr.out.mono ?_; rintro e w' ⟨rfl, rfl⟩))
    go_ret
    exact ⟨rfl, hb.out⟩
  · rw [a0]
    have d1 : decide (n < 1) = false := decide_eq_false (by omega)
    have d2 : decide (10 < n) = false := decide_eq_false (by omega)
    have b3 := inB_true a3
    have b4 := inB_true a4
    have b5 := inB_true a5
    have w1 : IntKind.i64.wrap (wr + r) = wr + r := IntWalk.i64_in _ (by omega)
    have w2 : IntKind.i64.wrap (n + k) = n + k := IntWalk.i64_in _ (by omega)
    have d6 : decide (wr + r < n + k) = true := decide_eq_true a6
    rw [a3] at Ck
    rw [a4] at Cw
    rw [a5] at Cr
    clear a0 a3 a4 a5 b3 b4 b5 a6
    go_enter Try.func17, Try.ntmps17
    go_wp2_with (go_at_call 36; first | (with_reducible refine Ck.out.mono ?_; rintro e w' ⟨rfl, rfl⟩) | (with_reducible refine Cw.out.mono ?_; rintro e w' ⟨rfl, rfl⟩) | (with_reducible refine Cr.out.mono ?_; rintro e w' ⟨rfl, rfl⟩))
    go_ret
    exact ⟨rfl, hb.out⟩
  · rw [a0]
    have d1 : decide (n < 1) = false := decide_eq_false (by omega)
    have d2 : decide (10 < n) = false := decide_eq_false (by omega)
    have b3 := inB_true a3
    have b4 := inB_true a4
    have b5 := inB_true a5
    have w1 : IntKind.i64.wrap (wr + r) = wr + r := IntWalk.i64_in _ (by omega)
    have w2 : IntKind.i64.wrap (n + k) = n + k := IntWalk.i64_in _ (by omega)
    have d6 : decide (wr + r < n + k) = false := decide_eq_false (by omega)
    rw [a3] at Ck
    rw [a4] at Cw
    rw [a5] at Cr
    clear a0 a3 a4 a5 b3 b4 b5 a6
    go_enter Try.func17, Try.ntmps17
    go_wp2_with (go_at_call 36; first | (with_reducible refine Ck.out.mono ?_; rintro e w' ⟨rfl, rfl⟩) | (with_reducible refine Cw.out.mono ?_; rintro e w' ⟨rfl, rfl⟩) | (with_reducible refine Cr.out.mono ?_; rintro e w' ⟨rfl, rfl⟩))
    go_ret
    exact ⟨rfl, hb.out⟩
end Go.Proofs.Ytioecklnijhjgaa
namespace Go.Proofs.Ytioecklnijhjgaa
open Go.RowKit

set_option maxRecDepth 100000 in
set_option maxHeartbeats 4000000 in
theorem ref_QuorumErr (n k wr r : Int) (w : World) :
    Calls Try.prog 6 #[qV n k wr r] w fun e w' => e = .returned (.int .i64 (qErr n k wr r)) ∧ Below w.heap.size w w' := by
  have hb := Lib.hid (below_alloc w (.cells #[.int .i64 n, .int .i64 k, .int .i64 wr, .int .i64 r] 23))
  have hq : qErr n k wr r = if n < 1 ∨ 10 < n ∨ min (min k wr) r < 1 ∨ n < max (max k wr) r then 1 else if wr + r < n + k then 9 else 0 := by
    unfold qErr inB
    simp only [Bool.and_eq_false_iff, decide_eq_false_iff_not]
    congr 1
    simp only [eq_iff_iff]
    omega
  rw [hq]
  clear hq
  by_cases n1 : n < 1
  · have d1 : decide (n < 1) = true := decide_eq_true n1
    rw [if_pos (Or.inl n1)]
    go_enter Try.func6, Try.ntmps6
    go_wp2_with fail
    go_ret
    exact ⟨rfl, hb.out⟩
  have d1 : decide (n < 1) = false := decide_eq_false n1
  by_cases n2 : 10 < n
  · have d2 : decide (10 < n) = true := decide_eq_true n2
    rw [if_pos (Or.inr (Or.inl n2))]
    go_enter Try.func6, Try.ntmps6
    go_wp2_with fail
    go_ret
    exact ⟨rfl, hb.out⟩
  have d2 : decide (10 < n) = false := decide_eq_false n2
  by_cases n3 : min (min k wr) r < 1
  · have hv : Hid ((if n < 1 ∨ 10 < n ∨ min (min k wr) r < 1 ∨ n < max (max k wr) r then (1 : Int) else if wr + r < n + k then 9 else 0) = 1) := if_pos (by omega)
    rw [hv.out]
    go_enter Try.func6, Try.ntmps6
    go_wp2_with fail
    all_goals first | (exfalso; omega) | (go_ret; exact ⟨rfl, hb.out⟩)
  by_cases n4 : n < max (max k wr) r
  · have hv : Hid ((if n < 1 ∨ 10 < n ∨ min (min k wr) r < 1 ∨ n < max (max k wr) r then (1 : Int) else if wr + r < n + k then 9 else 0) = 1) := if_pos (by omega)
    rw [hv.out]
    go_enter Try.func6, Try.ntmps6
    go_wp2_with fail
    all_goals first | (exfalso; omega) | (go_ret; exact ⟨rfl, hb.out⟩)
  rw [if_neg (by omega)]
  have w1 : IntKind.i64.wrap (wr + r) = wr + r := IntWalk.i64_in _ (by omega)
  have w2 : IntKind.i64.wrap (n + k) = n + k := IntWalk.i64_in _ (by omega)
  by_cases hs : wr + r < n + k
  · have d6 : decide (wr + r < n + k) = true := decide_eq_true hs
    rw [if_pos hs]
    go_enter Try.func6, Try.ntmps6
    go_wp2_with fail
    all_goals first | (exfalso; omega) | (go_ret; exact ⟨rfl, hb.out⟩)
  · have d6 : decide (wr + r < n + k) = false := decide_eq_false hs
    rw [if_neg hs]
    go_enter Try.func6, Try.ntmps6
    go_wp2_with fail
    all_goals first | (exfalso; omega) | (go_ret; exact ⟨rfl, hb.out⟩)
end Go.Proofs.Ytioecklnijhjgaa
namespace Go.Proofs.Ytioecklnijhjgaa
open Go.RowKit

abbrev sV (n b : Int) : Value := .agg #[.int .i64 n, .int .i64 b]
def newB (an ab bn bb : Int) : Bool := decide (bn < an) || (an == bn && decide (bb < ab))
set_option maxRecDepth 20000 in
theorem quorum_Newer (an ab bn bb : Int) (w : World) :
    Calls Try.prog 44 #[sV an ab, sV bn bb] w fun e w' => e = .returned (.bool (newB an ab bn bb)) ∧ Below w.heap.size w w' := by
  have hb := Lib.hid ((below_alloc w (.cells #[.int .i64 an, .int .i64 ab] 38)).alloc (by simp) (.cells #[.int .i64 bn, .int .i64 bb] 38))
  obtain ⟨B, hB⟩ : ∃ B, newB an ab bn bb = B := ⟨_, rfl⟩
  have HB := Lib.hid hB
  rw [hB]
  unfold newB at hB
  by_cases h1 : bn < an
  · have d1 : decide (bn < an) = true := decide_eq_true h1
    rw [d1] at hB
    subst hB
    go_enter Try.func44, Try.ntmps44
    go_wp2_with fail
    go_ret
    exact ⟨rfl, hb.out⟩
  · have d1 : decide (bn < an) = false := decide_eq_false h1
    by_cases h2 : an = bn
    · have d2 : (an == bn) = true := by simpa using h2
      rw [d1, d2] at hB
      obtain ⟨t, ht⟩ : ∃ t, decide (bb < ab) = t := ⟨_, rfl⟩
      rw [ht] at hB
      have hB2 : B = t := by rw [← hB]; rfl
      subst hB2
      clear h1 h2 hB
      go_enter Try.func44, Try.ntmps44
      go_wp2_with fail
      go_ret
      exact ⟨rfl, hb.out⟩
    · have d2 : (an == bn) = false := by simpa using h2
      rw [d1, d2] at hB
      subst hB
      clear h1 h2
      go_enter Try.func44, Try.ntmps44
      go_wp2_with fail
      go_ret
      exact ⟨rfl, hb.out⟩
set_option maxRecDepth 20000 in
theorem ref_Newer (an ab bn bb : Int) (w : World) :
    Calls Try.prog 49 #[sV an ab, sV bn bb] w fun e w' => e = .returned (.bool (newB an ab bn bb)) ∧ Below w.heap.size w w' := by
  have hb := Lib.hid ((below_alloc w (.cells #[.int .i64 an, .int .i64 ab] 38)).alloc (by simp) (.cells #[.int .i64 bn, .int .i64 bb] 38))
  obtain ⟨B, hB⟩ : ∃ B, newB an ab bn bb = B := ⟨_, rfl⟩
  rw [hB]
  unfold newB at hB
  by_cases h2 : an = bn
  · have d2 : (an == bn) = true := by simpa using h2
    have d1 : decide (bn < an) = false := decide_eq_false (by omega)
    rw [d1, d2] at hB
    obtain ⟨t, ht⟩ : ∃ t, decide (bb < ab) = t := ⟨_, rfl⟩
    rw [ht] at hB
    have hB2 : B = t := by rw [← hB]; rfl
    subst hB2
    clear h2 hB
    go_enter Try.func49, Try.ntmps49
    go_wp2_with fail
    go_ret
    exact ⟨rfl, hb.out⟩
  · have d2 : (an == bn) = false := by simpa using h2
    obtain ⟨t, ht⟩ : ∃ t, decide (bn < an) = t := ⟨_, rfl⟩
    rw [d2, ht] at hB
    have hB2 : B = t := by rw [← hB]; cases t <;> rfl
    subst hB2
    clear h2 hB
    go_enter Try.func49, Try.ntmps49
    go_wp2_with fail
    go_ret
    exact ⟨rfl, hb.out⟩
/-- The way that Least is asked. -/
theorem l_cases (n k : Int) : n < 1 ∨ (1 ≤ n ∧ 10 < n) ∨ (1 ≤ n ∧ n ≤ 10 ∧ k < 1) ∨ (1 ≤ n ∧ n ≤ 10 ∧ 1 ≤ k ∧ n < k) ∨ (1 ≤ n ∧ n ≤ 10 ∧ 1 ≤ k ∧ k ≤ n) := by omega
set_option maxRecDepth 20000 in
theorem quorum_Least_bad (n k : Int) (w : World) (h : n < 1 ∨ 10 < n ∨ k < 1 ∨ n < k) :
    Calls Try.prog 14 #[.int .i64 n, .int .i64 k] w fun e w' => e = .returned (.tuple #[qV 0 0 0 0, .int .i64 1]) ∧ Below w.heap.size w w' := by
  have hb := Lib.hid (below_alloc w (.cells #[.int .i64 0, .int .i64 0, .int .i64 0, .int .i64 0] 23))
  rcases l_cases n k with c | ⟨c1, c2⟩ | ⟨c1, c2, c3⟩ | ⟨c1, c2, c3, c4⟩ | ⟨c1, c2, c3, c4⟩
  · have d1 : decide (n < 1) = true := decide_eq_true c
    go_enter Try.func14, Try.ntmps14
    go_wp2_with fail
    go_returns
    exact ⟨rfl, hb.out⟩
  · have d1 : decide (n < 1) = false := decide_eq_false (by omega)
    have d2 : decide (10 < n) = true := decide_eq_true c2
    go_enter Try.func14, Try.ntmps14
    go_wp2_with fail
    go_returns
    exact ⟨rfl, hb.out⟩
  · have d1 : decide (n < 1) = false := decide_eq_false (by omega)
    have d2 : decide (10 < n) = false := decide_eq_false (by omega)
    have d3 : decide (k < 1) = true := decide_eq_true c3
    go_enter Try.func14, Try.ntmps14
    go_wp2_with fail
    go_returns
    exact ⟨rfl, hb.out⟩
  · have d1 : decide (n < 1) = false := decide_eq_false (by omega)
    have d2 : decide (10 < n) = false := decide_eq_false (by omega)
    have d3 : decide (k < 1) = false := decide_eq_false (by omega)
    have d4 : decide (n < k) = true := decide_eq_true c4
    go_enter Try.func14, Try.ntmps14
    go_wp2_with fail
    go_returns
    exact ⟨rfl, hb.out⟩
  · exfalso; omega
set_option maxRecDepth 20000 in
theorem quorum_Least (n k : Nat) (w : World) (h1 : 1 ≤ n) (h2 : n ≤ 10) (h3 : 1 ≤ k) (h4 : k ≤ n) (x y : Nat) (hx : (n + k + 1) / 2 = x) (hy : (n + k) / 2 = y) :
    Calls Try.prog 14 #[.int .i64 n, .int .i64 k] w fun e w' => e = .returned (.tuple #[qV n k x y, .int .i64 0]) ∧ Below w.heap.size w w' := by
  have d1 : decide ((n : Int) < 1) = false := decide_eq_false (by omega)
  have d2 : decide ((10 : Int) < n) = false := decide_eq_false (by omega)
  have d3 : decide ((k : Int) < 1) = false := decide_eq_false (by omega)
  have d4 : decide ((n : Int) < k) = false := decide_eq_false (by omega)
  have d5 : decide (n < k) = false := decide_eq_false (by omega)
  have e1 : ((n : Int) + k + 1) / 2 = (x : Int) := by omega
  have e2 : ((n : Int) + k) / 2 = (y : Int) := by omega
  have e3 : Int.tdiv ((n : Int) + k + 1) 2 = (x : Int) := by rw [Int.tdiv_eq_ediv_of_nonneg (by omega), e1]
  have e4 : Int.tdiv ((n : Int) + k) 2 = (y : Int) := by rw [Int.tdiv_eq_ediv_of_nonneg (by omega), e2]
  clear hx hy
  go_enter Try.func14, Try.ntmps14
  go_wp2_with fail
  go_returns
  exact ⟨rfl, below_alloc _ _⟩
def meetI (n k wr r : Int) (a b : Nat) : Int × Int :=
  if qErr n k wr r ≠ 0 then (0, qErr n k wr r) else if 2 ^ n.toNat ≤ a ∨ 2 ^ n.toNat ≤ b then (0, 3) else if (ones16 a : Int) < wr ∨ (ones16 b : Int) < r then (0, 9) else (((ones16 (a &&& b) : Nat) : Int), 0)
theorem meet_cases (n k wr r : Int) (a b : Nat) (hq : qErr n k wr r = 0) :
    (2 ^ n.toNat ≤ a ∧ meetI n k wr r a b = (0, 3)) ∨ (a < 2 ^ n.toNat ∧ 2 ^ n.toNat ≤ b ∧ meetI n k wr r a b = (0, 3)) ∨ (a < 2 ^ n.toNat ∧ b < 2 ^ n.toNat ∧ (ones16 a : Int) < wr ∧ meetI n k wr r a b = (0, 9)) ∨
    (a < 2 ^ n.toNat ∧ b < 2 ^ n.toNat ∧ wr ≤ (ones16 a : Int) ∧ (ones16 b : Int) < r ∧ meetI n k wr r a b = (0, 9)) ∨ (a < 2 ^ n.toNat ∧ b < 2 ^ n.toNat ∧ wr ≤ (ones16 a : Int) ∧ r ≤ (ones16 b : Int) ∧ meetI n k wr r a b = (((ones16 (a &&& b) : Nat) : Int), 0)) := by
  unfold meetI
  rw [if_neg (by rw [hq]; simp)]
  by_cases h1 : 2 ^ n.toNat ≤ a
  · exact .inl ⟨h1, if_pos (.inl h1)⟩
  · by_cases h2 : 2 ^ n.toNat ≤ b
    · exact .inr (.inl ⟨by omega, h2, if_pos (.inr h2)⟩)
    · rw [if_neg (by omega)]
      by_cases h3 : (ones16 a : Int) < wr
      · exact .inr (.inr (.inl ⟨by omega, by omega, h3, if_pos (.inl h3)⟩))
      · by_cases h4 : (ones16 b : Int) < r
        · exact .inr (.inr (.inr (.inl ⟨by omega, by omega, by omega, h4, if_pos (.inr h4)⟩)))
        · exact .inr (.inr (.inr (.inr ⟨by omega, by omega, by omega, by omega, if_neg (by omega)⟩)))
theorem q_ok {n k wr r : Int} (h : qErr n k wr r = 0) : 1 ≤ n ∧ n ≤ 10 ∧ 1 ≤ k ∧ k ≤ n ∧ 1 ≤ wr ∧ wr ≤ n ∧ 1 ≤ r ∧ r ≤ n := by
  rcases q_cases n k wr r with ⟨_, g⟩ | ⟨_, _, g⟩ | ⟨_, _, _, g⟩ | ⟨_, _, _, _, g⟩ | ⟨_, _, _, _, _, g⟩ | ⟨_, _, _, _, _, _, g⟩ | ⟨c1, c2, c3, c4, c5, _, _⟩
  · rw [h] at g; cases g
  · rw [h] at g; cases g
  · rw [h] at g; cases g
  · rw [h] at g; cases g
  · rw [h] at g; cases g
  · rw [h] at g; cases g
  · have b3 := inB_true c3
    have b4 := inB_true c4
    have b5 := inB_true c5
    omega
end Go.Proofs.Ytioecklnijhjgaa
