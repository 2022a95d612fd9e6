/- slices.choosePivotOrdered at uint16. (Printed by wip/tools/gen_sortp.py.) -/
import Derived.Test.YtmeffbooabionaaSoH
import Derived.Deep.DeepCutAuto
set_option linter.unusedVariables false
set_option linter.unusedSimpArgs false
namespace Go.Proofs.Ytmeffbooabionaa
open Go.RowKit

theorem CntAt.start {w : World} {sb : Nat} {T : TypeId} (h : w.heap.size = sb) : CntAt (w.alloc (.cells #[.int .i64 0] T)) (w.alloc (.cells #[.int .i64 0] T)) sb 0 := by
  subst h
  refine ⟨World.grownBy.refl _ _, ?_, ?_⟩
  · simp
  · simp
section
variable {d : Array Nat} {a b l Q p s : Nat}
theorem cp_small (hl : b - a = l) (hQ : l / 4 = Q) (h8 : ¬ 8 ≤ l) : Sort.choosePivot ltN d a b = (a + Q * 2, .increasing) := by
  unfold Sort.choosePivot
  simp only [hl, hQ]
  rw [if_neg h8]
  rfl
theorem cp_mid (hl : b - a = l) (hQ : l / 4 = Q) (h8 : 8 ≤ l) (h50 : ¬ 50 ≤ l) (h : Sort.median ltN d (a + Q * 1) (a + Q * 2) (a + Q * 3) 0 = (p, s)) : Sort.choosePivot ltN d a b = (p, if s = 0 then .increasing else if s = 12 then .decreasing else .unknown) := by
  unfold Sort.choosePivot
  simp only [hl, hQ]
  rw [if_pos h8, if_neg h50, h]
theorem cp_big {i j k s1 s2 s3 : Nat} (hl : b - a = l) (hQ : l / 4 = Q) (h8 : 8 ≤ l) (h50 : 50 ≤ l) (h1 : Sort.medianAdjacent ltN d (a + Q * 1) 0 = (i, s1)) (h2 : Sort.medianAdjacent ltN d (a + Q * 2) s1 = (j, s2)) (h3 : Sort.medianAdjacent ltN d (a + Q * 3) s2 = (k, s3))
    (h : Sort.median ltN d i j k s3 = (p, s)) : Sort.choosePivot ltN d a b = (p, if s = 0 then .increasing else if s = 12 then .decreasing else .unknown) := by
  unfold Sort.choosePivot
  simp only [hl, hQ, h1, h2, h3]
  rw [if_pos h8, if_pos h50, h]
end
theorem medA_lt {d : Array Nat} {a s n p t : Nat} (h1 : 1 ≤ a) (ha : a + 1 < n) (h : Sort.medianAdjacent ltN d a s = (p, t)) : p < n ∧ t ≤ s + 3 := by
  unfold Sort.medianAdjacent at h
  exact med_lt (by omega) (by omega) (by omega) h
set_option maxRecDepth 100000 in
set_option maxHeartbeats 8000000 in
theorem so_pivot (n : Nat) (d : Array Nat) (a b base g cap : Nat) (w : World) (hn : n ≤ 1000000) (hd : d.size = n) (hab : a < b) (hbn : b ≤ n) (hO : Own w base 29 g n cap (eU d)) (hb : base ≤ w.heap.size) :
    Calls Try.prog 87 #[.slice (some ⟨g, 0, none⟩) n cap, .int .i64 a, .int .i64 b] w
      (SoPost base n g cap w (.tuple #[.int .i64 ((Sort.choosePivot ltN d a b).1 : Nat), .int .i64 (Sort.hintCode (Sort.choosePivot ltN d a b).2)]) d) := by
  unfold SoPost
  obtain ⟨sb, hsb⟩ : ∃ sb, w.heap.size = sb := ⟨_, rfl⟩
  obtain ⟨w1, hw1⟩ : ∃ w1, w.alloc (.cells #[.int .i64 0] 3) = w1 := ⟨_, rfl⟩
  have hne : g ≠ sb := by have := hO.lt; omega
  have hO1 : Own w1 base 29 g n cap (eU d) := by rw [← hw1]; exact hO.below (Below.alloc (Below.refl _ _) (Nat.le_refl _) _)
  have hC1 : CntAt w1 w1 sb 0 := by rw [← hw1]; exact CntAt.start hsb
  have hB1 : Below base w w1 := by rw [← hw1]; exact Below.alloc (Below.refl _ _) hb _
  have hsb2 : base ≤ sb := by omega
  have hsz1 : base ≤ w1.heap.size := Nat.le_trans hb hB1.size
  have FIN : Hid (∀ W s, CntAt w1 W sb s → Own W base 29 g n cap (eU d) ∧ Below base w W) := fun W s h => ⟨hO1.kept h.grown hne, hB1.grown h.grown hsz1 (fun q hq => by cases hq; exact hsb2)⟩
  obtain ⟨l, hl⟩ : ∃ l, b - a = l := ⟨_, rfl⟩
  obtain ⟨Q, hQ⟩ : ∃ Q, l / 4 = Q := ⟨_, rfl⟩
  obtain ⟨I, hI⟩ : ∃ I, a + Q * 1 = I := ⟨_, rfl⟩
  obtain ⟨J, hJ⟩ : ∃ J, a + Q * 2 = J := ⟨_, rfl⟩
  obtain ⟨K, hK⟩ : ∃ K, a + Q * 3 = K := ⟨_, rfl⟩
  have el : (b : Int) - (a : Int) = (l : Int) := by omega
  have eQ : Int.tdiv (l : Int) 4 = (Q : Int) := by rw [Int.tdiv_eq_ediv_of_nonneg (by omega)]; omega
  have eQ2 : (l : Int) / 4 = (Q : Int) := by omega
  have eI : (a : Int) + (Q : Int) = (I : Int) := by omega
  have eJ : (a : Int) + (Q : Int) * 2 = (J : Int) := by omega
  have eK : (a : Int) + (Q : Int) * 3 = (K : Int) := by omega
  have hlt : I < n ∧ J < n ∧ K < n := by omega
  by_cases h8 : 8 ≤ l
  · have z8 : (8 : Int) ≤ (l : Int) := by omega
    by_cases h50 : 50 ≤ l
    · have z50 : (50 : Int) ≤ (l : Int) := by omega
      obtain ⟨i, s1, h1⟩ : ∃ i s1, Sort.medianAdjacent ltN d I 0 = (i, s1) := ⟨_, _, rfl⟩
      obtain ⟨j, s2, h2⟩ : ∃ j s2, Sort.medianAdjacent ltN d J s1 = (j, s2) := ⟨_, _, rfl⟩
      obtain ⟨k, s3, h3⟩ : ∃ k s3, Sort.medianAdjacent ltN d K s2 = (k, s3) := ⟨_, _, rfl⟩
      obtain ⟨p, s, h4⟩ : ∃ p s, Sort.median ltN d i j k s3 = (p, s) := ⟨_, _, rfl⟩
      have m1 := medA_lt (n := n) (by omega) (by omega) h1
      have m2 := medA_lt (n := n) (by omega) (by omega) h2
      have m3 := medA_lt (n := n) (by omega) (by omega) h3
      have HRAW := Lib.hid (cp_big (p := p) (s := s) (i := i) (j := j) (k := k) (s1 := s1) (s2 := s2) (s3 := s3) hl hQ h8 h50 (by rw [hI]; exact h1) (by rw [hJ]; exact h2) (by rw [hK]; exact h3) h4)
      have A1 := Lib.hid (so_medAdj n d I sb 0 base g cap i s1 w1 w1 hn (by omega) (by omega) (by omega) hO1 hne hC1 h1)
      have A2 := Lib.hid (fun W h => so_medAdj n d J sb s1 base g cap j s2 w1 W hn (by omega) (by omega) (by omega) hO1 hne h h2)
      have A3 := Lib.hid (fun W h => so_medAdj n d K sb s2 base g cap k s3 w1 W hn (by omega) (by omega) (by omega) hO1 hne h h3)
      have A4 := Lib.hid (fun W h => so_median n d i j k sb s3 base g cap p s w1 W hn m1.1 m2.1 m3.1 (by omega) hO1 hne h h4)
      clear hO hO1 hC1 hB1 hsb2 hsz1 hl hQ hI hJ hK h8 h50 h1 h2 h3 h4 m1 m2 m3 hb
      go_enter Try.func87, Try.ntmps87
      go_upto_region 12 with (first
        | (go_at_call 106; (refine (A4.out _ HC3).mono ?_); rintro e w5 ⟨rfl, HC4⟩)
        | (go_at_call 105; (refine (A3.out _ HC2).mono ?_); rintro e w4 ⟨rfl, HC3⟩)
        | (go_at_call 105; (refine (A2.out _ HC1).mono ?_); rintro e w3 ⟨rfl, HC2⟩)
        | (go_at_call 105; (refine A1.out.mono ?_); rintro e w2 ⟨rfl, HC1⟩)
        | fail)
      have HC := Lib.hid HC4
      have cS := HC.out.cell
      by_cases hs0 : s = 0
      · have z1 : (s : Int) = 0 := by omega
        have hR : Hid (Sort.choosePivot ltN d a b = (p, .increasing)) := by rw [HRAW.out, if_pos hs0]; trivial
        clear hs0
        go_wp2_with fail
        go_ret2
        rw [hR.out]
        exact ⟨rfl, FIN.out _ _ HC.out⟩
      · by_cases hs12 : s = 12
        · have z1 : ¬ ((s : Int) = 0) := by omega
          have z2 : (s : Int) = 12 := by omega
          have hR : Hid (Sort.choosePivot ltN d a b = (p, .decreasing)) := by rw [HRAW.out, if_neg hs0, if_pos hs12]; trivial
          clear hs0 hs12
          go_wp2_with fail
          go_ret2
          rw [hR.out]
          exact ⟨rfl, FIN.out _ _ HC.out⟩
        · have z1 : ¬ ((s : Int) = 0) := by omega
          have z2 : ¬ ((s : Int) = 12) := by omega
          have hR : Hid (Sort.choosePivot ltN d a b = (p, .unknown)) := by rw [HRAW.out, if_neg hs0, if_neg hs12]; trivial
          clear hs0 hs12
          go_wp2_with fail
          go_ret2
          rw [hR.out]
          exact ⟨rfl, FIN.out _ _ HC.out⟩
    · have z50 : ¬ ((50 : Int) ≤ (l : Int)) := by omega
      obtain ⟨p, s, h4⟩ : ∃ p s, Sort.median ltN d I J K 0 = (p, s) := ⟨_, _, rfl⟩
      have HRAW := Lib.hid (cp_mid (p := p) (s := s) hl hQ h8 h50 (by rw [hI, hJ, hK]; exact h4))
      have A4 := Lib.hid (so_median n d I J K sb 0 base g cap p s w1 w1 hn hlt.1 hlt.2.1 hlt.2.2 (by omega) hO1 hne hC1 h4)
      clear hO hO1 hC1 hB1 hsb2 hsz1 hl hQ hI hJ hK h8 h50 h4 hb
      go_enter Try.func87, Try.ntmps87
      go_upto_region 12 with (first
        | (go_at_call 106; (refine A4.out.mono ?_); rintro e w5 ⟨rfl, HC4⟩)
        | fail)
      have HC := Lib.hid HC4
      have cS := HC.out.cell
      by_cases hs0 : s = 0
      · have z1 : (s : Int) = 0 := by omega
        have hR : Hid (Sort.choosePivot ltN d a b = (p, .increasing)) := by rw [HRAW.out, if_pos hs0]; trivial
        clear hs0
        go_wp2_with fail
        go_ret2
        rw [hR.out]
        exact ⟨rfl, FIN.out _ _ HC.out⟩
      · by_cases hs12 : s = 12
        · have z1 : ¬ ((s : Int) = 0) := by omega
          have z2 : (s : Int) = 12 := by omega
          have hR : Hid (Sort.choosePivot ltN d a b = (p, .decreasing)) := by rw [HRAW.out, if_neg hs0, if_pos hs12]; trivial
          clear hs0 hs12
          go_wp2_with fail
          go_ret2
          rw [hR.out]
          exact ⟨rfl, FIN.out _ _ HC.out⟩
        · have z1 : ¬ ((s : Int) = 0) := by omega
          have z2 : ¬ ((s : Int) = 12) := by omega
          have hR : Hid (Sort.choosePivot ltN d a b = (p, .unknown)) := by rw [HRAW.out, if_neg hs0, if_neg hs12]; trivial
          clear hs0 hs12
          go_wp2_with fail
          go_ret2
          rw [hR.out]
          exact ⟨rfl, FIN.out _ _ HC.out⟩
  · have z8 : ¬ ((8 : Int) ≤ (l : Int)) := by omega
    have HR : Hid (Sort.choosePivot ltN d a b = (J, .increasing)) := by rw [cp_small hl hQ h8, hJ] <;> trivial
    have HC4 := hC1
    have cS := hC1.cell
    clear hO hO1 hC1 hB1 hsb2 hsz1 hl hQ hI hJ hK h8 hb
    go_enter Try.func87, Try.ntmps87
    go_wp2_with fail
    go_ret2
    rw [HR.out]
    exact ⟨rfl, FIN.out _ _ HC4⟩
end Go.Proofs.Ytmeffbooabionaa
