/- slices.order2Ordered, medianOrdered, medianAdjacentOrdered, choosePivotOrdered at uint16. -/
import Derived.Test.YtmeffbooabionaaSoA
import Derived.Sort.LotD4
set_option linter.unusedVariables false
set_option linter.unusedSimpArgs false
namespace Go.Proofs.Ytmeffbooabionaa
open Go.RowKit

/-- Behind some calls that count swaps in a block of its own. -/
structure CntAt (w w' : World) (sb s : Nat) : Prop where
  grown : w.grownBy w' (some sb)
  cell : w'.cell? ⟨sb, 0, none⟩ = some (.int .i64 (s : Int))
  frz : w'.frozen? ⟨sb, 0, none⟩ = false
theorem CntAt.drewN {w w' : World} {sb s : Nat} (h : CntAt w w' sb s) (q : Nat) : CntAt w (w'.drewN q) sb s := ⟨⟨h.grown.os, h.grown.tape, h.grown.output, h.grown.size, h.grown.block⟩, h.cell, h.frz⟩
theorem CntAt.set {w w' : World} {sb s : Nat} (h : CntAt w w' sb s) (t : Nat) : CntAt w (w'.setCell ⟨sb, 0, none⟩ (.int .i64 (t : Int))) sb t := by
  refine ⟨⟨h.grown.os, h.grown.tape, h.grown.output, by have := h.grown.size; simpa using this, fun k hk hne => (Below.heap_setCell _ _ _ k (fun e => hne (by rw [e]))).trans (h.grown.block k hk hne)⟩, ?_, ?_⟩
  · exact World.cell?_setCell_same _ _ _ h.cell
  · have := h.frz
    simpa using this
section
variable {d : Array Nat} {i j k s n : Nat}
theorem o2_yes (h : ltN d[j]! d[i]! = true) : Sort.order2 ltN d i j s = (j, i, s + 1) := by unfold Sort.order2; rw [if_pos h]
theorem o2_no (h : ltN d[j]! d[i]! = false) : Sort.order2 ltN d i j s = (i, j, s) := by unfold Sort.order2; rw [if_neg]; rw [h]; simp
theorem o2_lt (hi : i < n) (hj : j < n) {x y t : Nat} (h : Sort.order2 ltN d i j s = (x, y, t)) : x < n ∧ y < n ∧ t ≤ s + 1 := by
  cases hb : ltN d[j]! d[i]!
  · rw [o2_no hb] at h; cases h; exact ⟨hi, hj, by omega⟩
  · rw [o2_yes hb] at h; cases h; exact ⟨hj, hi, by omega⟩
end
set_option maxRecDepth 100000 in
set_option maxHeartbeats 4000000 in
theorem so_order2 (n : Nat) (d : Array Nat) (i j sb s base g cap x y t : Nat) (w0 w : World) (hn : n ≤ 1000000) (hi : i < n) (hj : j < n) (hs : s ≤ 1000) (hO : Own w0 base 29 g n cap (eU d)) (hne : g ≠ sb) (hc : CntAt w0 w sb s)
    (hr : Sort.order2 ltN d i j s = (x, y, t)) :
    Calls Try.prog 122 #[.slice (some ⟨g, 0, none⟩) n cap, .int .i64 i, .int .i64 j, .pointer (some ⟨sb, 0, none⟩)] w fun e w' =>
      e = .returned (.tuple #[.int .i64 x, .int .i64 y]) ∧ CntAt w0 w' sb t := by
  have hO1 := hO.kept hc.grown hne
  have hcp := hO.caps
  have hc1 : (n : Int) ≤ (cap : Int) := by omega
  obtain ⟨u, hu⟩ : ∃ u, d[j]! = u := ⟨_, rfl⟩
  obtain ⟨v, hv⟩ : ∃ v, d[i]! = v := ⟨_, rfl⟩
  have c1 := (hO1.cell hj).trans (congrArg some (eU_of hu))
  have c2 := (hO1.cell hi).trans (congrArg some (eU_of hv))
  have q1 : (i : Int) < (n : Int) := by omega
  have q2 : (j : Int) < (n : Int) := by omega
  have HC := Lib.hid hc
  have CL := Lib.hid (fun W => cmp_Less_u16 u v W)
  obtain ⟨B, hB⟩ : ∃ B, ltN u v = B := ⟨_, rfl⟩
  rw [hB] at CL
  clear hO hO1 hcp hc
  cases B
  · rw [o2_no (by rw [hu, hv]; exact hB)] at hr
    cases hr
    clear hu hv hB
    go_enter Try.func122, Try.ntmps122
    go_wp2_with fail
    go_quiet ((go_at_call 90; (first | (with_reducible exact quiet_on (fun W' => CL.out W')) | (with_reducible exact quiet_at (fun W' => CL.out W')) | exact CL.out _)))
    go_wp2_with fail
    go_ret2
    exact ⟨rfl, HC.out.drewN _⟩
  · rw [o2_yes (by rw [hu, hv]; exact hB)] at hr
    obtain ⟨s', hs'⟩ : ∃ s', s + 1 = s' := ⟨_, rfl⟩
    have e1 : (s : Int) + 1 = (s' : Int) := by omega
    rw [hs'] at hr
    cases hr
    clear hu hv hB hs'
    go_enter Try.func122, Try.ntmps122
    go_wp2_with fail
    go_quiet ((go_at_call 90; (first | (with_reducible exact quiet_on (fun W' => CL.out W')) | (with_reducible exact quiet_at (fun W' => CL.out W')) | exact CL.out _)))
    have HC2 := Lib.hid (HC.out.drewN nq)
    clear c1 c2
    obtain ⟨w9, hw9⟩ : ∃ w9, w.drewN nq = w9 := ⟨_, rfl⟩
    rw [hw9] at HC2 ⊢
    clear hw9
    have c3 := HC2.out.cell
    have f3 := HC2.out.frz
    have HC3 := Lib.hid (HC2.out.set t)
    go_wp2_with fail
    go_ret2
    exact ⟨rfl, HC3.out⟩
theorem med_eq {d : Array Nat} {a b c s x1 y1 s1 x2 y2 s2 x3 y3 s3 : Nat} (h1 : Sort.order2 ltN d a b s = (x1, y1, s1)) (h2 : Sort.order2 ltN d y1 c s1 = (x2, y2, s2)) (h3 : Sort.order2 ltN d x1 x2 s2 = (x3, y3, s3)) : Sort.median ltN d a b c s = (y3, s3) := by
  unfold Sort.median
  simp only [h1, h2, h3]
theorem med_lt {d : Array Nat} {a b c s n p t : Nat} (ha : a < n) (hb : b < n) (hc : c < n) (h : Sort.median ltN d a b c s = (p, t)) : p < n ∧ t ≤ s + 3 := by
  obtain ⟨x1, y1, s1, h1⟩ : ∃ x1 y1 s1, Sort.order2 ltN d a b s = (x1, y1, s1) := ⟨_, _, _, rfl⟩
  obtain ⟨x2, y2, s2, h2⟩ : ∃ x2 y2 s2, Sort.order2 ltN d y1 c s1 = (x2, y2, s2) := ⟨_, _, _, rfl⟩
  obtain ⟨x3, y3, s3, h3⟩ : ∃ x3 y3 s3, Sort.order2 ltN d x1 x2 s2 = (x3, y3, s3) := ⟨_, _, _, rfl⟩
  rw [med_eq h1 h2 h3] at h
  cases h
  have l1 := o2_lt ha hb h1
  have l2 := o2_lt l1.2.1 hc h2
  have l3 := o2_lt l1.1 l2.1 h3
  exact ⟨l3.2.1, by omega⟩
set_option maxRecDepth 100000 in
set_option maxHeartbeats 4000000 in
theorem so_median (n : Nat) (d : Array Nat) (a b c sb s base g cap p t : Nat) (w0 w : World) (hn : n ≤ 1000000) (ha : a < n) (hb : b < n) (hcn : c < n) (hs : s ≤ 900) (hO : Own w0 base 29 g n cap (eU d)) (hne : g ≠ sb) (hc : CntAt w0 w sb s)
    (hr : Sort.median ltN d a b c s = (p, t)) :
    Calls Try.prog 106 #[.slice (some ⟨g, 0, none⟩) n cap, .int .i64 a, .int .i64 b, .int .i64 c, .pointer (some ⟨sb, 0, none⟩)] w fun e w' =>
      e = .returned (.int .i64 p) ∧ CntAt w0 w' sb t := by
  obtain ⟨x1, y1, s1, h1⟩ : ∃ x1 y1 s1, Sort.order2 ltN d a b s = (x1, y1, s1) := ⟨_, _, _, rfl⟩
  obtain ⟨x2, y2, s2, h2⟩ : ∃ x2 y2 s2, Sort.order2 ltN d y1 c s1 = (x2, y2, s2) := ⟨_, _, _, rfl⟩
  obtain ⟨x3, y3, s3, h3⟩ : ∃ x3 y3 s3, Sort.order2 ltN d x1 x2 s2 = (x3, y3, s3) := ⟨_, _, _, rfl⟩
  rw [med_eq h1 h2 h3] at hr
  cases hr
  have l1 := o2_lt ha hb h1
  have l2 := o2_lt l1.2.1 hcn h2
  have C1 := Lib.hid (so_order2 n d a b sb s base g cap x1 y1 s1 w0 w hn ha hb (by omega) hO hne hc h1)
  have C2 := Lib.hid (fun W h => so_order2 n d y1 c sb s1 base g cap x2 y2 s2 w0 W hn l1.2.1 hcn (by omega) hO hne h h2)
  have C3 := Lib.hid (fun W h => so_order2 n d x1 x2 sb s2 base g cap x3 p t w0 W hn l1.1 l2.1 (by omega) hO hne h h3)
  clear h1 h2 h3 hO hc
  go_enter Try.func106, Try.ntmps106
  go_wp2_with (first
    | (go_at_call 122; (refine (C3.out _ HW2).mono ?_); rintro e w3 ⟨rfl, HW3⟩)
    | (go_at_call 122; (refine (C2.out _ HW1).mono ?_); rintro e w2 ⟨rfl, HW2⟩)
    | (go_at_call 122; (refine C1.out.mono ?_); rintro e w1 ⟨rfl, HW1⟩)
    | fail)
  go_ret
  exact ⟨rfl, HW3⟩
set_option maxRecDepth 100000 in
set_option maxHeartbeats 4000000 in
theorem so_medAdj (n : Nat) (d : Array Nat) (a sb s base g cap p t : Nat) (w0 w : World) (hn : n ≤ 1000000) (ha0 : 1 ≤ a) (ha : a + 1 < n) (hs : s ≤ 900) (hO : Own w0 base 29 g n cap (eU d)) (hne : g ≠ sb) (hc : CntAt w0 w sb s)
    (hr : Sort.medianAdjacent ltN d a s = (p, t)) :
    Calls Try.prog 105 #[.slice (some ⟨g, 0, none⟩) n cap, .int .i64 a, .pointer (some ⟨sb, 0, none⟩)] w fun e w' =>
      e = .returned (.int .i64 p) ∧ CntAt w0 w' sb t := by
  unfold Sort.medianAdjacent at hr
  obtain ⟨x, hx⟩ : ∃ x, a - 1 = x := ⟨_, rfl⟩
  obtain ⟨y, hy⟩ : ∃ y, a + 1 = y := ⟨_, rfl⟩
  rw [hx, hy] at hr
  have ex : (a : Int) - 1 = (x : Int) := by omega
  have ey : (a : Int) + 1 = (y : Int) := by omega
  have C1 := Lib.hid (so_median n d x a y sb s base g cap p t w0 w hn (by omega) (by omega) (by omega) hs hO hne hc hr)
  clear hx hy hO hc hr
  go_enter Try.func105, Try.ntmps105
  go_wp2_with (first
    | (go_at_call 106; (refine C1.out.mono ?_); rintro e w1 ⟨rfl, HW1⟩)
    | fail)
  go_ret
  exact ⟨rfl, HW1⟩
end Go.Proofs.Ytmeffbooabionaa
