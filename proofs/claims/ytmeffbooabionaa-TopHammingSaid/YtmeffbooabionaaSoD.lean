/- slices.heapSortOrdered and reverseRangeOrdered at uint16. (Printed by wip/tools/gen_sortu.py.) -/
import Derived.Test.YtmeffbooabionaaSoC
set_option linter.unusedVariables false
set_option linter.unusedSimpArgs false
namespace Go.Proofs.Ytmeffbooabionaa
open Go.RowKit

theorem half_start {a b : Nat} (hab : a ≤ b) : Int.tdiv (((b - a : Nat) : Int) - 1) 2 = (((b - a - 1) / 2 + 1 : Nat) : Int) - 1 := by
  by_cases h : a = b
  · subst h
    simp
  · rw [Int.tdiv_eq_ediv_of_nonneg (by omega)]
    omega
set_option maxRecDepth 100000 in
set_option maxHeartbeats 8000000 in
theorem so_heap (n : Nat) (d : Array Nat) (a b base g cap : Nat) (w : World) (hn : n ≤ 1000000) (hd : d.size = n) (hab : a ≤ b) (hbn : b ≤ n) (hO : Own w base 29 g n cap (eU d)) (hb : base ≤ w.heap.size) :
    Calls Try.prog 85 #[.slice (some ⟨g, 0, none⟩) n cap, .int .i64 a, .int .i64 b] w (SoPost base n g cap w (.tuple #[]) (Sort.heapSort ltN d a b)) := by
  have HB : Hid (base ≤ w.heap.size) := hb
  have hc := hO.caps
  have HO : Hid (Own w base 29 g n cap (eU d)) := hO
  have hc1 : (n : Int) ≤ (cap : Int) := by omega
  have hc2 := hc.1
  have hc3 := hc.2
  clear hO hb hc
  have hhs := half_start hab
  unfold Sort.heapSort
  obtain ⟨H, hH⟩ : ∃ H, b - a = H := ⟨_, rfl⟩
  rw [hH] at hhs ⊢
  obtain ⟨K, hK⟩ : ∃ K, (H - 1) / 2 + 1 = K := ⟨_, rfl⟩
  rw [hK] at hhs ⊢
  have eH : (b : Int) - (a : Int) = (H : Int) := by omega
  have hKH : K ≤ H + 1 := by omega
  clear hH hK
  go_enter Try.func85, Try.ntmps85
  go_wp2_with fail
  go_loopw [9] (fun vi wr => ∃ (k : Nat) (dk : Array Nat), vi = .int .i64 ((k : Int) - 1) ∧ k ≤ K ∧ dk.size = n ∧ Hid (Own wr base 29 g n cap (eU dk)) ∧ Hid (Sort.heapBuild ltN H a k dk = Sort.heapBuild ltN H a K d) ∧ Hid (Below base w wr)) (fun vi _ => (intOf vi + 1).toNat)
  case atStart => exact ⟨K, d, rfl, Nat.le_refl _, hd, HO, rfl, Below.refl _ _⟩
  case round =>
    obtain ⟨k, dk, rfl, hk, hdk, hO, hE, hB⟩ := hrel
    cases k with
    | zero =>
      have hE2 : Hid (dk = Sort.heapBuild ltN H a K d) := hE.out
      clear hE
      have em0 : ((0 : Nat) : Int) - 1 = -1 := by omega
      rw [em0]
      go_wp2
      go_loopw [10] (fun vi wr => ∃ (k : Nat) (dj : Array Nat), vi = .int .i64 ((k : Int) - 1) ∧ k ≤ H ∧ dj.size = n ∧ Hid (Own wr base 29 g n cap (eU dj)) ∧ Hid (Sort.heapPop ltN a k dj = Sort.heapPop ltN a H (Sort.heapBuild ltN H a K d)) ∧ Hid (Below base w wr)) (fun vi _ => (intOf vi + 1).toNat)
      case atStart => exact ⟨H, dk, rfl, Nat.le_refl _, hdk, hO, by rw [hE2.out]; trivial, hB⟩
      case round =>
        clear hO hB hE2 hdk dk hk
        obtain ⟨k, dk, rfl, hk, hdk, hO, hE, hB⟩ := hrel
        cases k with
        | zero =>
          rw [em0]
          go_wp2
          go_end0
          refine ⟨rfl, ?_, hB.out⟩
          rw [← hE.out]
          exact hO.out
        | succ m =>
          have em : ((m + 1 : Nat) : Int) - 1 = (m : Int) := by omega
          rw [em]
          cases m with
          | zero =>
            obtain ⟨x, hx⟩ : ∃ x, dk[a]! = x := ⟨_, rfl⟩
            have HX := Lib.hid hx
            have c1 := (hO.out.cell (show a < n by omega)).trans (congrArg some (eU_of hx))
            have f1 := hO.out.frozen a
            have na0 : (0 : Int) ≤ (a : Int) := by omega
            have na1 : (a : Int) < (n : Int) := by omega
            have HO2 := Lib.hid (own_swap hO.out hdk (show a < n by omega) (show a < n by omega) hx hx)
            have HB2 := Lib.hid (below_swap (i := a) (j := a) (u := .int .u16 (x : Int)) (v := .int .u16 (x : Int)) hO.out hB.out HB.out)
            have ea0 : (a : Int) + 0 = (a : Int) := by omega
            clear hx
            go_wp2_with fail
            go_region
            all_goals
              have CS := Lib.hid (so_sift n (Sort.swp dk a a) 0 0 a base g cap _ hn (by rw [sz_swp]; exact hdk) (Nat.zero_le _) (by omega) (own_drew HO2.out) (by have := (below_drewN HB2.out 1).size; have := HB.out; exact Nat.le_trans (by assumption) (by assumption)))
              go_wp2_with (go_at_call 102; (refine CS.out.mono ?_); rintro e w1 ⟨rfl, hO1, hB1⟩)
              go_roundw
              case rel => exact ⟨0, Sort.siftDown ltN 0 a 0 (Sort.swp dk a a), by simp, by omega, by rw [sz_sift _ _ _ (Nat.le_refl _), sz_swp]; exact hdk, hO1, hE, (below_drewN HB2.out 1).trans hB1⟩
              case measure => simp [intOf]
          | succ q =>
            obtain ⟨m, hm⟩ : ∃ m, q + 1 = m := ⟨_, rfl⟩
            rw [hm] at hE hk em ⊢
            have hm0 : 0 < m := by omega
            clear hm
            obtain ⟨x, hx⟩ : ∃ x, dk[a]! = x := ⟨_, rfl⟩
            have HX := Lib.hid hx
            have c1 := (hO.out.cell (show a < n by omega)).trans (congrArg some (eU_of hx))
            have f1 := hO.out.frozen a
            have na0 : (0 : Int) ≤ (a : Int) := by omega
            have na1 : (a : Int) < (n : Int) := by omega
            obtain ⟨P, hP⟩ : ∃ P, a + m = P := ⟨_, rfl⟩
            have HP := Lib.hid hP
            have eP : (a : Int) + (m : Int) = (P : Int) := by omega
            obtain ⟨y, hy⟩ : ∃ y, dk[P]! = y := ⟨_, rfl⟩
            have HY := Lib.hid hy
            have c2 := (hO.out.cell (show P < n by omega)).trans (congrArg some (eU_of hy))
            have f2 := hO.out.frozen P
            have nP0 : (0 : Int) ≤ (P : Int) := by omega
            have nP1 : (P : Int) < (n : Int) := by omega
            have hne : a ≠ P := by omega
            have HO2 := Lib.hid (own_swap hO.out hdk (show a < n by omega) (show P < n by omega) hx hy)
            have HB2 := Lib.hid (below_swap (i := a) (j := P) (u := .int .u16 (y : Int)) (v := .int .u16 (x : Int)) hO.out hB.out HB.out)
            clear hP hy
            clear hx
            go_wp2_with fail
            go_region
            all_goals
              have CS := Lib.hid (so_sift n (Sort.swp dk a P) 0 m a base g cap _ hn (by rw [sz_swp]; exact hdk) (Nat.zero_le _) (by omega) (own_drew HO2.out) (by have := (below_drewN HB2.out 1).size; have := HB.out; exact Nat.le_trans (by assumption) (by assumption)))
              go_wp2_with (go_at_call 102; (refine CS.out.mono ?_); rintro e w1 ⟨rfl, hO1, hB1⟩)
              go_roundw
              case rel => exact ⟨m, Sort.siftDown ltN m a 0 (Sort.swp dk a P), by rfl, by omega, by rw [sz_sift _ _ _ (Nat.le_refl _), sz_swp]; exact hdk, hO1, by have h := hE.out; rw [Sort.heapPop, HP.out] at h; exact h, (below_drewN HB2.out 1).trans hB1⟩
              case measure => simp [intOf]
    | succ m =>
      have em : ((m + 1 : Nat) : Int) - 1 = (m : Int) := by omega
      rw [em]
      have CS := Lib.hid (so_sift n dk m H a base g cap _ hn hdk (by omega) (by omega) hO.out (Nat.le_trans HB.out hB.out.size))
      go_wp2_with (go_at_call 102; (refine CS.out.mono ?_); rintro e w1 ⟨rfl, hO1, hB1⟩)
      go_roundw
      case rel => exact ⟨m, Sort.siftDown ltN H a m dk, rfl, by omega, by rw [sz_sift _ _ _ (Nat.le_refl _)]; exact hdk, hO1, hE, hB.out.trans hB1⟩
      case measure => simp [intOf]
theorem rev_go {i j : Nat} {d : Array Nat} (h : i < j) : Sort.reverseLoop i j d = Sort.reverseLoop (i + 1) (j - 1) (Sort.swp d i j) := by rw [Sort.reverseLoop, if_pos h]
theorem rev_end {i j : Nat} {d : Array Nat} (h : ¬ i < j) : Sort.reverseLoop i j d = d := by rw [Sort.reverseLoop, if_neg h]
set_option maxRecDepth 100000 in
set_option maxHeartbeats 8000000 in
theorem so_reverse (n : Nat) (d : Array Nat) (a b base g cap : Nat) (w : World) (hn : n ≤ 1000000) (hd : d.size = n) (hab : a < b) (hbn : b ≤ n) (hO : Own w base 29 g n cap (eU d)) (hb : base ≤ w.heap.size) :
    Calls Try.prog 88 #[.slice (some ⟨g, 0, none⟩) n cap, .int .i64 a, .int .i64 b] w (SoPost base n g cap w (.tuple #[]) (Sort.reverseRange d a b)) := by
  have HB : Hid (base ≤ w.heap.size) := hb
  have hc := hO.caps
  have HO : Hid (Own w base 29 g n cap (eU d)) := hO
  have hc1 : (n : Int) ≤ (cap : Int) := by omega
  have hc2 := hc.1
  have hc3 := hc.2
  clear hO hb hc
  unfold Sort.reverseRange
  obtain ⟨L, hL⟩ : ∃ L, b - 1 = L := ⟨_, rfl⟩
  rw [hL]
  have eL : (b : Int) - 1 = (L : Int) := by omega
  have hLn : L < n := by omega
  have haL : a ≤ L := by omega
  clear hL
  go_enter Try.func88, Try.ntmps88
  go_wp2_with fail
  go_loopw [6, 7] (fun vi vj wr => ∃ (i j : Nat) (dk : Array Nat), vi = .int .i64 i ∧ vj = .int .i64 j ∧ i ≤ L + 1 ∧ j ≤ L ∧ dk.size = n ∧ Hid (Own wr base 29 g n cap (eU dk)) ∧ Hid (Sort.reverseLoop i j dk = Sort.reverseLoop a L d) ∧ Hid (Below base w wr)) (fun vi vj _ => (intOf vj - intOf vi).toNat)
  case atStart => exact ⟨a, L, d, rfl, rfl, by omega, Nat.le_refl _, hd, HO, rfl, Below.refl _ _⟩
  case round =>
    obtain ⟨i, j, dk, rfl, rfl, hi, hj, hdk, hO, hE, hB⟩ := hrel
    by_cases hij : i < j
    · have hijz : (i : Int) < (j : Int) := by omega
      have hE2 := Lib.hid ((rev_go hij).symm.trans hE.out)
      obtain ⟨x, hx⟩ : ∃ x, dk[i]! = x := ⟨_, rfl⟩
      obtain ⟨y, hy⟩ : ∃ y, dk[j]! = y := ⟨_, rfl⟩
      have c1 := (hO.out.cell (show i < n by omega)).trans (congrArg some (eU_of hx))
      have c2 := (hO.out.cell (show j < n by omega)).trans (congrArg some (eU_of hy))
      have f1 := hO.out.frozen i
      have f2 := hO.out.frozen j
      have ni : (i : Int) < (n : Int) := by omega
      have nj : (j : Int) < (n : Int) := by omega
      have ni0 : (0 : Int) ≤ (i : Int) := by omega
      have nj0 : (0 : Int) ≤ (j : Int) := by omega
      have hne : i ≠ j := by omega
      have HO2 := Lib.hid (own_swap hO.out hdk (show i < n by omega) (show j < n by omega) hx hy)
      have HB2 := Lib.hid (below_swap (i := i) (j := j) (u := .int .u16 (y : Int)) (v := .int .u16 (x : Int)) hO.out hB.out HB.out)
      have ej : (j : Int) - 1 = ((j - 1 : Nat) : Int) := by omega
      clear hx hy
      go_wp2_with fail
      go_region
      all_goals
        go_wp2_with fail
        go_roundw
        case rel => exact ⟨i + 1, j - 1, Sort.swp dk i j, by go_num, by first | rfl | (simp only [Value.int.injEq, true_and]; omega), by omega, by omega, by rw [sz_swp]; exact hdk, own_drew HO2.out, hE2, below_drewN HB2.out 1⟩
        case measure => simp [intOf]; omega
    · have hijz : ¬ ((i : Int) < (j : Int)) := by omega
      go_wp2
      go_end0
      refine ⟨rfl, ?_, hB.out⟩
      rw [← hE.out, rev_end hij]
      exact hO.out
end Go.Proofs.Ytmeffbooabionaa
