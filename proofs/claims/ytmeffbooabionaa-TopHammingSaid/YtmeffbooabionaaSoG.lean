/- slices.partialInsertionSortOrdered at uint16. (Printed by wip/tools/gen_sortu.py.) -/
import Derived.Test.YtmeffbooabionaaSoF
set_option linter.unusedVariables false
set_option linter.unusedSimpArgs false
namespace Go.Proofs.Ytmeffbooabionaa
open Go.RowKit

section
variable {d d1 d2 d3 : Array Nat} {a b s i i0 j : Nat}
theorem ss_go (h : i < b) (hl : ltN d[i]! d[i - 1]! = false) : Sort.scanSorted ltN d b i = Sort.scanSorted ltN d b (i + 1) := by rw [Sort.scanSorted, if_pos]; simp [h, hl]
theorem ss_end (h : ¬ i < b ∨ ltN d[i]! d[i - 1]! = true) : Sort.scanSorted ltN d b i = i := by
  rw [Sort.scanSorted, if_neg]
  rcases h with h | h <;> simp [h]
theorem sd2_go (hl : ltN d[j + 1]! d[j]! = true) : Sort.shiftDown ltN (j + 1) d = Sort.shiftDown ltN j (Sort.swp d (j + 1) j) := by rw [Sort.shiftDown, if_neg]; simp [hl]
theorem sd2_stop (hl : ltN d[j + 1]! d[j]! = false) : Sort.shiftDown ltN (j + 1) d = d := by rw [Sort.shiftDown, if_pos]; simp [hl]
theorem su_go (h : j < b) (hl : ltN d[j]! d[j - 1]! = true) : Sort.shiftUp ltN b j d = Sort.shiftUp ltN b (j + 1) (Sort.swp d j (j - 1)) := by rw [Sort.shiftUp, if_pos h, if_neg]; simp [hl]
theorem su_stop (h : ¬ j < b ∨ ltN d[j]! d[j - 1]! = false) : Sort.shiftUp ltN b j d = d := by
  by_cases hj : j < b
  · rw [Sort.shiftUp, if_pos hj, if_pos]
    rcases h with h | h
    · exact absurd hj h
    · simp [h]
  · rw [Sort.shiftUp, if_neg hj]
theorem pi_true (hK : Sort.scanSorted ltN d b i0 = b) : Sort.partialIns ltN a b (s + 1) i0 d = (d, true) := by
  rw [Sort.partialIns]; simp only [hK, if_true]
theorem pi_short (hK : Sort.scanSorted ltN d b i0 = i) (hb : i ≠ b) (h50 : b - a < 50) : Sort.partialIns ltN a b (s + 1) i0 d = (d, false) := by
  rw [Sort.partialIns]; simp only [hK]; rw [if_neg hb, if_pos h50]
theorem pi_go (hK : Sort.scanSorted ltN d b i0 = i) (hb : i ≠ b) (h50 : ¬ b - a < 50) (h1 : Sort.swp d i (i - 1) = d1) (h2 : (if i - a ≥ 2 then Sort.shiftDown ltN (i - 1) d1 else d1) = d2) (h3 : (if b - i ≥ 2 then Sort.shiftUp ltN b (i + 1) d2 else d2) = d3) :
    Sort.partialIns ltN a b (s + 1) i0 d = Sort.partialIns ltN a b s i d3 := by
  rw [Sort.partialIns]; simp only [hK]; rw [if_neg hb, if_neg h50, h1, h2, h3]
theorem sz_sd2 : ∀ (j : Nat) (d : Array Nat), (Sort.shiftDown ltN j d).size = d.size := by
  intro j
  induction j with
  | zero => intro d; rfl
  | succ j ih =>
    intro d
    cases h : ltN d[j + 1]! d[j]!
    · rw [sd2_stop h]
    · rw [sd2_go h, ih, sz_swp]
theorem sz_su (b : Nat) : ∀ (m j : Nat) (d : Array Nat), b - j ≤ m → (Sort.shiftUp ltN b j d).size = d.size := by
  intro m
  induction m with
  | zero => intro j d h; rw [su_stop (.inl (by omega))]
  | succ m ih =>
    intro j d h
    by_cases hj : j < b
    · cases hl : ltN d[j]! d[j - 1]!
      · rw [su_stop (.inr hl)]
      · rw [su_go hj hl, ih _ _ (by omega), sz_swp]
    · rw [su_stop (.inl hj)]
end
set_option maxRecDepth 100000 in
set_option maxHeartbeats 8000000 in
theorem so_partial (n : Nat) (d : Array Nat) (a b base g cap : Nat) (w : World) (hn : n ≤ 1000000) (hd : d.size = n) (hab : a < b) (hbn : b ≤ n) (hO : Own w base 29 g n cap (eU d)) (hb : base ≤ w.heap.size) :
    Calls Try.prog 89 #[.slice (some ⟨g, 0, none⟩) n cap, .int .i64 a, .int .i64 b] w (SoPost base n g cap w (.bool (Sort.partialInsertionSort ltN d a b).2) (Sort.partialInsertionSort ltN d a b).1) := by
  have HB : Hid (base ≤ w.heap.size) := hb
  have hc := hO.caps
  have HO : Hid (Own w base 29 g n cap (eU d)) := hO
  have hc1 : (n : Int) ≤ (cap : Int) := by omega
  have hc2 := hc.1
  have hc3 := hc.2
  clear hO hb hc
  unfold Sort.partialInsertionSort
  have HB0 := Lib.hid (Below.refl base w)
  obtain ⟨BA, hBA⟩ : ∃ BA, b - a = BA := ⟨_, rfl⟩
  have eBA : (b : Int) - (a : Int) = (BA : Int) := by omega
  have HBA := Lib.hid hBA
  clear hBA
  go_enter Try.func89, Try.ntmps89
  go_wp2_with fail
  go_loopg [7, 8] 5 (fun k s7 s8 wr => ∃ (t s i : Nat) (dk : Array Nat), s7 = .int .i64 i ∧ s8 = .int .i64 t ∧ t + s = 5 ∧ s ≤ k ∧ a + 1 ≤ i ∧ i ≤ b ∧ dk.size = n ∧ Hid (Own wr base 29 g n cap (eU dk)) ∧ Hid (Sort.partialIns ltN a b s i dk = Sort.partialIns ltN a b 5 (a + 1) d) ∧ Hid (Below base w wr))
  case atStart => exact ⟨0, 5, a + 1, d, by go_num, rfl, rfl, Nat.le_refl _, Nat.le_refl _, by omega, hd, HO, rfl, HB0⟩
  case round =>
    clear HO HB0
    obtain ⟨t, s, i0, dk, rfl, rfl, hts, hk, hi0a, hi0b, hdk, hO, hE, hB⟩ := hrel
    cases s with
    | zero =>
      have ht5 : ¬ ((t : Int) < 5) := by omega
      have hR : Hid (Sort.partialIns ltN a b 5 (a + 1) d = (dk, false)) := hE.out.symm
      go_wp2
      go_ret
      rw [hR.out]
      exact ⟨rfl, hO.out, hB.out⟩
    | succ s =>
      have ht5 : (t : Int) < 5 := by omega
      go_upto_block 2 with fail
      go_cut [7] (fun s7 wc => ∃ i : Nat, s7 = .int .i64 i ∧ i0 ≤ i ∧ i ≤ b ∧ Hid (Sort.scanSorted ltN dk b i0 = i) ∧ Hid (Own wc base 29 g n cap (eU dk)) ∧ Hid (Below base w wc))
      case first =>
        go_wp2_with fail
        go_loopg [7] (b - i0) (fun k s7 wc => ∃ i : Nat, s7 = .int .i64 i ∧ i0 ≤ i ∧ i ≤ b ∧ b - i ≤ k ∧ Hid (Sort.scanSorted ltN dk b i = Sort.scanSorted ltN dk b i0) ∧ Hid (Own wc base 29 g n cap (eU dk)) ∧ Hid (Below base w wc))
        case atStart => exact ⟨i0, rfl, Nat.le_refl _, hi0b, Nat.le_refl _, rfl, hO, hB⟩
        case round =>
          clear hO hB
          obtain ⟨i, rfl, hia, hib, hik, hS, hO, hB⟩ := hrel
          by_cases hin : i < b
          · obtain ⟨q, hq⟩ : ∃ q, i - 1 = q := ⟨_, rfl⟩
            have t1 : (i : Int) < (b : Int) := by omega
            have t2 : decide ((i : Int) < (b : Int)) = true := by simp; omega
            have q1 : (0 : Int) ≤ (i : Int) := by omega
            have q2 : (i : Int) < (n : Int) := by omega
            have q3 : (0 : Int) ≤ (q : Int) := by omega
            have q4 : (q : Int) < (n : Int) := by omega
            have e1 : (i : Int) - 1 = (q : Int) := by omega
            have e2 : IntKind.i64.wrap ((i : Int) - 1) = (q : Int) := by rw [e1]; exact IntWalk.i64_in _ (by omega)
            obtain ⟨x, hx⟩ : ∃ x, dk[i]! = x := ⟨_, rfl⟩
            obtain ⟨y, hy⟩ : ∃ y, dk[q]! = y := ⟨_, rfl⟩
            have c1 := (hO.out.cell (show i < n by omega)).trans (congrArg some (eU_of hx))
            have c2 := (hO.out.cell (show q < n by omega)).trans (congrArg some (eU_of hy))
            have CL := Lib.hid (fun W => cmp_Less_u16 x y W)
            obtain ⟨B, hLB⟩ : ∃ B, ltN x y = B := ⟨_, rfl⟩
            rw [hLB] at CL
            cases B
            · have hS2 := Lib.hid ((ss_go hin (by rw [hq, hx, hy]; exact hLB)).symm.trans hS.out)
              clear hx hy hLB hq
              go_wp2_with fail
              go_quiet ((go_at_call 90; (first | (with_reducible exact quiet_on (fun W' => CL.out W')) | (with_reducible exact quiet_at (fun W' => CL.out W')) | exact CL.out _)))
              go_wp2_with fail
              go_roundg (b - (i + 1))
              case measure => omega
              case rel => exact ⟨i + 1, by go_num, by omega, by omega, Nat.le_refl _, hS2, hO.out.drewN _, below_drewN hB.out _⟩
            · have hS2 := Lib.hid (hS.out.symm.trans (ss_end (.inr (by rw [hq, hx, hy]; exact hLB))))
              clear hx hy hLB hq
              go_wp2_with fail
              go_quiet ((go_at_call 90; (first | (with_reducible exact quiet_on (fun W' => CL.out W')) | (with_reducible exact quiet_at (fun W' => CL.out W')) | exact CL.out _)))
              go_wp2_with fail
              go_meet
              exact ⟨i, rfl, hia, hib, hS2, hO.out.drewN _, below_drewN hB.out _⟩
          · have t1 : ¬ ((i : Int) < (b : Int)) := by omega
            have t2 : decide ((i : Int) < (b : Int)) = false := by simp; omega
            have hS2 := Lib.hid (hS.out.symm.trans (ss_end (.inl hin)))
            go_wp2_with fail
            go_quiet (fail)
            go_wp2_with fail
            go_meet
            exact ⟨i, rfl, hia, hib, hS2, hO.out.drewN _, below_drewN hB.out _⟩
      case rest =>
        obtain ⟨i, rfl, hia, hib, hS, hO1, hB1⟩ := hcut
        clear hO hB
        by_cases hieq : i = b
        · have hR : Hid (Sort.partialIns ltN a b 5 (a + 1) d = (dk, true)) := hE.out.symm.trans (pi_true (hS.out.trans hieq))
          have hz : (i : Int) = (b : Int) := by omega
          clear hieq
          go_wp2
          go_ret
          rw [hR.out]
          exact ⟨rfl, hO1.out, hB1.out⟩
        · have hz : ¬ ((i : Int) = (b : Int)) := by omega
          by_cases h50 : BA < 50
          · have hR : Hid (Sort.partialIns ltN a b 5 (a + 1) d = (dk, false)) := hE.out.symm.trans (pi_short hS.out hieq (by rw [HBA.out]; exact h50))
            have hz5 : (BA : Int) < 50 := by omega
            clear hieq
            go_wp2
            go_ret
            rw [hR.out]
            exact ⟨rfl, hO1.out, hB1.out⟩
          · have hz5 : ¬ ((BA : Int) < 50) := by omega
            have hbB : b = a + BA := by have := HBA.out; omega
            obtain ⟨K, hK⟩ : ∃ K, i - 1 = K := ⟨_, rfl⟩
            have eK : (i : Int) - 1 = (K : Int) := by omega
            have hKi : K + 1 = i := by omega
            have HKi := Lib.hid hKi
            have HbB := Lib.hid hbB
            have hib2 : i < b := by omega
            clear hbB hKi
            go_upto_region 11 with fail
            go_cut [] (fun wc => Hid (Own wc base 29 g n cap (eU (Sort.swp dk i K))) ∧ Hid (Below base w wc))
            case first =>
              obtain ⟨x, hx⟩ : ∃ x, dk[i]! = x := ⟨_, rfl⟩
              have c1 := (hO1.out.cell (show i < n by omega)).trans (congrArg some (eU_of hx))
              have f1 := hO1.out.frozen i
              have q1 : (0 : Int) ≤ (i : Int) := by omega
              have q2 : (i : Int) < (n : Int) := by omega
              have hpq : i ≠ K := by omega
              obtain ⟨y, hy⟩ : ∃ y, dk[K]! = y := ⟨_, rfl⟩
              have c2 := (hO1.out.cell (show K < n by omega)).trans (congrArg some (eU_of hy))
              have f2 := hO1.out.frozen K
              have q3 : (0 : Int) ≤ (K : Int) := by omega
              have q4 : (K : Int) < (n : Int) := by omega
              have HO2 := Lib.hid (own_swap hO1.out (show dk.size = n by assumption) (show i < n by omega) (show K < n by omega) hx hy)
              have HB2 := Lib.hid (below_swap (i := i) (j := K) (u := .int .u16 (y : Int)) (v := .int .u16 (x : Int)) hO1.out hB1.out HB.out)
              clear hx hy
              go_wp2_with fail
              go_region
              all_goals
                go_wp2_with fail
                go_meet
                exact ⟨own_drew HO2.out, below_drewN HB2.out 1⟩
            case rest =>
              obtain ⟨hO4, hB4⟩ := hcut
              try clear hO1 hB1
              have HG : Hid (∀ d1 d2 d3, Sort.swp dk i K = d1 → (if i - a ≥ 2 then Sort.shiftDown ltN K d1 else d1) = d2 → (if b - i ≥ 2 then Sort.shiftUp ltN b (i + 1) d2 else d2) = d3 → Sort.partialIns ltN a b s i d3 = Sort.partialIns ltN a b 5 (a + 1) d) := by
                intro d1 d2 d3 h1 h2 h3
                rw [← hK] at h1 h2
                exact (pi_go hS.out hieq (by rw [HBA.out]; exact h50) h1 h2 h3).symm.trans hE.out
              obtain ⟨d1, hd1⟩ : ∃ d1, Sort.swp dk i K = d1 := ⟨_, rfl⟩
              obtain ⟨d2, hd2⟩ : ∃ d2, (if i - a ≥ 2 then Sort.shiftDown ltN K d1 else d1) = d2 := ⟨_, rfl⟩
              obtain ⟨d3, hd3⟩ : ∃ d3, (if b - i ≥ 2 then Sort.shiftUp ltN b (i + 1) d2 else d2) = d3 := ⟨_, rfl⟩
              have hE3 := Lib.hid (HG.out d1 d2 d3 hd1 hd2 hd3)
              have hs1 : d1.size = n := by rw [← hd1, sz_swp]; exact hdk
              have hs2 : d2.size = n := by
                rw [← hd2]
                split
                · rw [sz_sd2]; exact hs1
                · exact hs1
              have hs3 : d3.size = n := by
                rw [← hd3]
                split
                · rw [sz_su b _ _ _ (Nat.le_refl _)]; exact hs2
                · exact hs2
              rw [hd1] at hO4
              have HD2 := Lib.hid hd2
              have HD3 := Lib.hid hd3
              obtain ⟨IA, hIA⟩ : ∃ IA, i - a = IA := ⟨_, rfl⟩
              obtain ⟨BI, hBI⟩ : ∃ BI, b - i = BI := ⟨_, rfl⟩
              have eIA : (i : Int) - (a : Int) = (IA : Int) := by omega
              have eBI : (b : Int) - (i : Int) = (BI : Int) := by omega
              have HIA := Lib.hid hIA
              have HBI := Lib.hid hBI
              clear HG hE hS hd1 hd2 hd3 hIA hBI hieq hK
              go_upto_if 61 with fail
              go_cut [] (fun wc => Hid (Own wc base 29 g n cap (eU d2)) ∧ Hid (Below base w wc))
              case first =>
                by_cases hge : 2 ≤ IA
                · have z1 : (2 : Int) ≤ (IA : Int) := by omega
                  have z2 : decide ((2 : Int) ≤ (IA : Int)) = true := by simp; omega
                  have HD : Hid (Sort.shiftDown ltN K d1 = d2) := by rw [← HD2.out, if_pos (by rw [HIA.out]; exact hge)]; trivial
                  have hKi : K < n := by have := HKi.out; omega
                  go_wp2_with fail
                  go_loopg [9] (K) (fun k s wr => ∃ (j : Nat) (dj : Array Nat), s = .int .i64 j ∧ j ≤ K ∧ dj.size = n ∧ j ≤ k ∧ Hid (Own wr base 29 g n cap (eU dj)) ∧ Hid (Sort.shiftDown ltN j dj = Sort.shiftDown ltN K d1) ∧ Hid (Below base w wr))
                  case atStart => exact ⟨K, d1, by rfl, by omega, by assumption, by omega, hO4, rfl, hB4⟩
                  case round =>
                    obtain ⟨j, dj, rfl, hj0, hdj, hk2, hOj, hEj, hBj⟩ := hrel
                    try clear hO4 hB4
                    cases j with
                    | zero =>
                      have hEe := Lib.hid hEj.out.symm
                      go_wp2_with fail
                      go_meet
                      exact ⟨by rw [← HD.out, hEe.out]; exact hOj.out, hBj.out⟩
                    | succ q =>
                      obtain ⟨J, hqJ⟩ : ∃ J, q + 1 = J := ⟨_, rfl⟩
                      rw [hqJ] at hj0 hEj hk2 ⊢
                      have hqJ2 : q + 1 = J := hqJ
                      have t1 : (1 : Int) ≤ (J : Int) := by omega
                      have t2 : decide ((1 : Int) ≤ (J : Int)) = true := by simp; omega
                      have q1 : (0 : Int) ≤ (J : Int) := by omega
                      have q2 : (J : Int) < (n : Int) := by omega
                      have q3 : (0 : Int) ≤ (q : Int) := by omega
                      have q4 : (q : Int) < (n : Int) := by omega
                      have e1 : (J : Int) - 1 = (q : Int) := by omega
                      have e2 : IntKind.i64.wrap ((J : Int) - 1) = (q : Int) := by rw [e1]; exact IntWalk.i64_in _ (by omega)
                      obtain ⟨x, hx⟩ : ∃ x, dj[J]! = x := ⟨_, rfl⟩
                      obtain ⟨y, hy⟩ : ∃ y, dj[q]! = y := ⟨_, rfl⟩
                      have HX := Lib.hid hx
                      have HY := Lib.hid hy
                      have c1 := (hOj.out.cell (show J < n by omega)).trans (congrArg some (eU_of hx))
                      have c2 := (hOj.out.cell (show q < n by omega)).trans (congrArg some (eU_of hy))
                      have CL := Lib.hid (fun W => cmp_Less_u16 x y W)
                      obtain ⟨B, hLB⟩ : ∃ B, ltN x y = B := ⟨_, rfl⟩
                      rw [hLB] at CL
                      cases B
                      · have hEe := Lib.hid (hEj.out.symm.trans ((congrArg (fun z => Sort.shiftDown ltN z dj) hqJ.symm).trans <| sd2_stop (by rw [hqJ, hx, hy]; exact hLB)))
                        clear hx hy hLB
                        go_wp2_with fail
                        go_quiet ((go_at_call 90; (first | (with_reducible exact quiet_on (fun W' => CL.out W')) | (with_reducible exact quiet_at (fun W' => CL.out W')) | exact CL.out _)))
                        go_wp2_with fail
                        go_meet
                        exact ⟨by rw [← HD.out, hEe.out]; exact hOj.out.drewN _, below_drewN hBj.out _⟩
                      · have hEe := Lib.hid (hEj.out.symm.trans ((congrArg (fun z => Sort.shiftDown ltN z dj) hqJ.symm).trans <| sd2_go (by rw [hqJ, hx, hy]; exact hLB)))
                        rw [hqJ] at hEe
                        clear hx hy hLB
                        go_wp2_with fail
                        go_quiet ((go_at_call 90; (first | (with_reducible exact quiet_on (fun W' => CL.out W')) | (with_reducible exact quiet_at (fun W' => CL.out W')) | exact CL.out _)))
                        have hO9 := Lib.hid (hOj.out.drewN nq)
                        have hB9 := Lib.hid (below_drewN hBj.out nq)
                        clear c1 c2
                        obtain ⟨w9, hw9⟩ : ∃ w9, wr.drewN nq = w9 := ⟨_, rfl⟩
                        rw [hw9] at hO9 hB9 ⊢
                        clear hw9 nq
                        have c1 := (hO9.out.cell (show J < n by omega)).trans (congrArg some (eU_of HX.out))
                        have c2 := (hO9.out.cell (show q < n by omega)).trans (congrArg some (eU_of HY.out))
                        have f1 := hO9.out.frozen J
                        have f2 := hO9.out.frozen q
                        have hne : J ≠ q := by omega
                        have HO2 := Lib.hid (own_swap hO9.out hdj (show J < n by omega) (show q < n by omega) HX.out HY.out)
                        have HB2 := Lib.hid (below_swap (i := J) (j := q) (u := .int .u16 (y : Int)) (v := .int .u16 (x : Int)) hO9.out hB9.out HB.out)
                        go_wp2_with fail
                        go_region
                        all_goals
                          go_wp2_with fail
                          go_roundg (q)
                          case measure => omega
                          case rel => exact ⟨q, Sort.swp dj J q, by (first | rfl | (simp only [Value.int.injEq, true_and]; omega)), by omega, by rw [sz_swp]; exact hdj, by omega, own_drew HO2.out, hEe.out.symm, below_drewN HB2.out 1⟩
                · have z1 : ¬ ((2 : Int) ≤ (IA : Int)) := by omega
                  have z2 : decide ((2 : Int) ≤ (IA : Int)) = false := by simp; omega
                  have HD : Hid (d1 = d2) := by rw [← HD2.out, if_neg (by rw [HIA.out]; exact hge)]; trivial
                  go_wp2_with fail
                  go_meet
                  exact ⟨by rw [← HD.out]; exact hO4.out, hB4.out⟩
              case rest =>
                obtain ⟨hO5, hB5⟩ := hcut
                clear hO4 hB4
                by_cases hge : 2 ≤ BI
                · have z1 : (2 : Int) ≤ (BI : Int) := by omega
                  have z2 : decide ((2 : Int) ≤ (BI : Int)) = true := by simp; omega
                  have HD : Hid (Sort.shiftUp ltN b (i + 1) d2 = d3) := by rw [← HD3.out, if_pos (by rw [HBI.out]; exact hge)]; trivial
                  go_wp2_with fail
                  go_loopg [10] (b - (i + 1)) (fun k s wr => ∃ (j : Nat) (dj : Array Nat), s = .int .i64 j ∧ i + 1 ≤ j ∧ j ≤ b ∧ dj.size = n ∧ b - j ≤ k ∧ Hid (Own wr base 29 g n cap (eU dj)) ∧ Hid (Sort.shiftUp ltN b j dj = Sort.shiftUp ltN b (i + 1) d2) ∧ Hid (Below base w wr))
                  case atStart => exact ⟨(i + 1), d2, by go_num, by omega, by omega, by assumption, by omega, hO5, rfl, hB5⟩
                  case round =>
                    obtain ⟨j, dj, rfl, hj0, hj1, hdj, hk2, hOj, hEj, hBj⟩ := hrel
                    try clear hO5 hB5
                    by_cases hjb : j < b
                    · obtain ⟨J, hJ⟩ : ∃ J, j = J := ⟨_, rfl⟩
                      obtain ⟨q, hq⟩ : ∃ q, J - 1 = q := ⟨_, rfl⟩
                      subst hJ
                      have hqJ : j - 1 = q := hq
                      have t1 : (j : Int) < (b : Int) := by omega
                      have t2 : decide ((j : Int) < (b : Int)) = true := by simp; omega
                      have q1 : (0 : Int) ≤ (j : Int) := by omega
                      have q2 : (j : Int) < (n : Int) := by omega
                      have q3 : (0 : Int) ≤ (q : Int) := by omega
                      have q4 : (q : Int) < (n : Int) := by omega
                      have e1 : (j : Int) - 1 = (q : Int) := by omega
                      have e2 : IntKind.i64.wrap ((j : Int) - 1) = (q : Int) := by rw [e1]; exact IntWalk.i64_in _ (by omega)
                      obtain ⟨x, hx⟩ : ∃ x, dj[j]! = x := ⟨_, rfl⟩
                      obtain ⟨y, hy⟩ : ∃ y, dj[q]! = y := ⟨_, rfl⟩
                      have HX := Lib.hid hx
                      have HY := Lib.hid hy
                      have c1 := (hOj.out.cell (show j < n by omega)).trans (congrArg some (eU_of hx))
                      have c2 := (hOj.out.cell (show q < n by omega)).trans (congrArg some (eU_of hy))
                      have CL := Lib.hid (fun W => cmp_Less_u16 x y W)
                      obtain ⟨B, hLB⟩ : ∃ B, ltN x y = B := ⟨_, rfl⟩
                      rw [hLB] at CL
                      cases B
                      · have hEe := Lib.hid (hEj.out.symm.trans (su_stop (.inr (by rw [hqJ, hx, hy]; exact hLB))))
                        clear hx hy hLB
                        go_wp2_with fail
                        go_quiet ((go_at_call 90; (first | (with_reducible exact quiet_on (fun W' => CL.out W')) | (with_reducible exact quiet_at (fun W' => CL.out W')) | exact CL.out _)))
                        go_wp2_with fail
                        go_roundg s
                        case measure => omega
                        case rel => exact ⟨t + 1, s, i, d3, rfl, by go_num, by omega, by omega, by omega, by omega, hs3, by rw [← HD.out, hEe.out]; exact hOj.out.drewN _, hE3, below_drewN hBj.out _⟩
                      · have hEe := Lib.hid (hEj.out.symm.trans (su_go (by omega) (by rw [hqJ, hx, hy]; exact hLB)))
                        rw [hqJ] at hEe
                        clear hx hy hLB
                        go_wp2_with fail
                        go_quiet ((go_at_call 90; (first | (with_reducible exact quiet_on (fun W' => CL.out W')) | (with_reducible exact quiet_at (fun W' => CL.out W')) | exact CL.out _)))
                        have hO9 := Lib.hid (hOj.out.drewN nq)
                        have hB9 := Lib.hid (below_drewN hBj.out nq)
                        clear c1 c2
                        obtain ⟨w9, hw9⟩ : ∃ w9, wr.drewN nq = w9 := ⟨_, rfl⟩
                        rw [hw9] at hO9 hB9 ⊢
                        clear hw9 nq
                        have c1 := (hO9.out.cell (show j < n by omega)).trans (congrArg some (eU_of HX.out))
                        have c2 := (hO9.out.cell (show q < n by omega)).trans (congrArg some (eU_of HY.out))
                        have f1 := hO9.out.frozen j
                        have f2 := hO9.out.frozen q
                        have hne : j ≠ q := by omega
                        have HO2 := Lib.hid (own_swap hO9.out hdj (show j < n by omega) (show q < n by omega) HX.out HY.out)
                        have HB2 := Lib.hid (below_swap (i := j) (j := q) (u := .int .u16 (y : Int)) (v := .int .u16 (x : Int)) hO9.out hB9.out HB.out)
                        go_wp2_with fail
                        go_region
                        all_goals
                          go_wp2_with fail
                          go_roundg (b - (j + 1))
                          case measure => omega
                          case rel => exact ⟨j + 1, Sort.swp dj j q, by go_num, by omega, by omega, by rw [sz_swp]; exact hdj, by omega, own_drew HO2.out, hEe.out.symm, below_drewN HB2.out 1⟩
                    · have hjb2 : j = b := by omega
                      have hEe := Lib.hid (hEj.out.symm.trans (su_stop (.inl hjb)))
                      have t1 : ¬ ((j : Int) < (b : Int)) := by omega
                      have t2 : decide ((j : Int) < (b : Int)) = false := by simp; omega
                      clear hjb2
                      go_wp2_with fail
                      go_roundg s
                      case measure => omega
                      case rel => exact ⟨t + 1, s, i, d3, rfl, by go_num, by omega, by omega, by omega, by omega, hs3, by rw [← HD.out, hEe.out]; exact hOj.out, hE3, hBj.out⟩
                · have z1 : ¬ ((2 : Int) ≤ (BI : Int)) := by omega
                  have z2 : decide ((2 : Int) ≤ (BI : Int)) = false := by simp; omega
                  have HD : Hid (d2 = d3) := by rw [← HD3.out, if_neg (by rw [HBI.out]; exact hge)]; trivial
                  go_wp2_with fail
                  go_roundg s
                  case measure => omega
                  case rel => exact ⟨t + 1, s, i, d3, rfl, by go_num, by omega, by omega, by omega, by omega, hs3, by rw [← HD.out]; exact hO5, hE3, hB5⟩
end Go.Proofs.Ytmeffbooabionaa
