/- FracNear's walk. (Printed by wip/tools/gen_neark.py.) -/
import Derived.Test.YthnbhhfbmkklmaaNear3
import Derived.Test.YthnbhhfbmkklmaaFarey1
import Derived.RegionTactic
namespace Go.Proofs.Ythnbhhfbmkklmaa
open Go.RowKit Go.Sort

theorem q_cells {w : World} {ao : Option Addr} {zs : List QF} (h : Reads w ao (zs.flatMap encQ)) {i : Nat} {z : QF} (hz : zs[i]? = some z) :
    ∃ b o, ao = some ⟨b, o, none⟩ ∧ w.cell? ⟨b, o + i * 2, none⟩ = some (.int .i64 z.1.1) ∧ w.cell? ⟨b, o + i * 2 + 1, none⟩ = some (.int .i64 z.1.2) := by
  rw [encQ_cells] at h
  obtain ⟨h1, h2⟩ := cells2_get (zs.map fun x : QF => (Value.int .i64 x.1.1, Value.int .i64 x.1.2)) i (.int .i64 z.1.1, .int .i64 z.1.2) (by rw [List.getElem?_map, hz]; rfl)
  obtain ⟨b, o, ha, hc⟩ := h _ _ h1
  obtain ⟨b2, o2, ha2, hc2⟩ := h _ _ h2
  rw [ha] at ha2
  injection ha2 with ha2
  injection ha2 with e1 e2
  subst e1 e2
  exact ⟨b, o, ha, hc, by rw [Nat.add_assoc]; exact hc2⟩
set_option maxRecDepth 100000 in
set_option maxHeartbeats 2000000 in
theorem equal_fr (zs : List QF) (n : Nat) (ao bo : Option Addr) (ca cb : Nat) (w : World) (hl : zs.length = n) (h63 : n ≤ 9223372036854775807) (hX : Hid (Reads w ao (zs.flatMap encQ))) (hY : Hid (Reads w bo (zs.flatMap encQ))) :
    Calls Try.prog 10 #[.slice ao n ca, .slice bo n cb] w fun e w' => e = .returned (.bool true) ∧ Below w.heap.size w w' := by
  have HL := Lib.hid hl
  clear hl
  go_enter Try.func10, Try.ntmps10
  go_wp2_with fail
  go_loopw [13] (fun vi wr => ∃ (i m : Nat), vi = .int .i64 i ∧ i ≤ n ∧ wr = w.drewN m) (fun vi _ => n - (intOf vi).toNat)
  case atStart => exact ⟨0, 0, rfl, by omega, rfl⟩
  case round =>
    obtain ⟨i, m, rfl, hi, rfl⟩ := hrel
    by_cases hin : i < n
    · obtain ⟨z, hz⟩ : ∃ z, zs[i]? = some z := ⟨zs[i]'(by rw [HL.out]; exact hin), List.getElem?_eq_getElem _⟩
      obtain ⟨b1, o1, rfl, c1, c2⟩ := q_cells hX.out hz
      obtain ⟨b2, o2, rfl, c3, c4⟩ := q_cells hY.out hz
      clear hz
      go_wp2_with fail
      go_region
      go_wp2_with fail
      go_roundw
      case rel => exact ⟨i + 1, m + 1, by go_num, by omega, by rw [← World.drewN_drewN]⟩
      case measure => simp [intOf]; omega
    · obtain rfl : i = n := by omega
      go_wp2_with fail
      go_ret
      exact ⟨rfl, below_dr _ _ m⟩
/-- Is the call of Near a right one? -/
def nearB (P Q most : Int) : Bool := rgB P Q && decide (1 ≤ most) && decide (most ≤ 1000000)
def bad3 : Value := .tuple #[.agg #[.int .i64 0, .int .i64 0], .agg #[.int .i64 0, .int .i64 0], .int .i64 1]
def NearBad (w : World) (e : Ending) (w' : World) : Prop := e = .returned bad3 ∧ Below w.heap.size w w'
set_option maxRecDepth 100000 in
set_option maxHeartbeats 2000000 in
theorem near_bad_go (P Q most : Int) (r t1 t2 : Bool) (w : World) (hr : rgB P Q = r) (h1 : decide (most < 1) = t1) (h2 : decide (1000000 < most) = t2) (hb : r = false ∨ (r = true ∧ t1 = true) ∨ (r = true ∧ t1 = false ∧ t2 = true)) :
    Calls Try.prog 8 #[.agg #[.int .i64 P, .int .i64 Q], .int .i64 most] w (NearBad w) := by
  have CR := Lib.hid (fun X => frac_right P Q X)
  rw [hr] at CR
  clear hr
  obtain ⟨H, hH⟩ : ∃ H, w.heap.size = H := ⟨_, rfl⟩
  obtain ⟨W0, hW0⟩ : ∃ W0, ((w.alloc (.cells #[.int .i64 P, .int .i64 Q] 23)).alloc (.cells #[.int .i64 0, .int .i64 0] 23)).alloc (.cells #[.int .i64 0, .int .i64 0] 23) = W0 := ⟨_, rfl⟩
  have bW0 : Below w.heap.size w W0 := by rw [← hW0]; exact (below_two _ _).alloc (by simp; omega) _
  have r0 : W0.heap[H + 1]? = some (.cells #[.int .i64 ((0 : Nat) : Int), .int .i64 ((0 : Nat) : Int)] 23) := by rw [← hW0, ← hH]; exact heap_alloc_old _ _ (heap_new' _ _ _ (by simp))
  have s0 : W0.heap[H + 1 + 1]? = some (.cells #[.int .i64 ((0 : Nat) : Int), .int .i64 ((0 : Nat) : Int)] 23) := by rw [← hW0, ← hH]; exact heap_new' _ _ _ (by simp)
  have xx0 : W0.cell? ⟨H, 0, none⟩ = some (.int .i64 P) := by rw [← hW0, ← hH]; exact heap_cell (heap_alloc_old _ _ (heap_alloc_old _ _ (heap_alloc_new w _))) 0
  have xx1 : W0.cell? ⟨H, 1, none⟩ = some (.int .i64 Q) := by rw [← hW0, ← hH]; exact heap_cell (heap_alloc_old _ _ (heap_alloc_old _ _ (heap_alloc_new w _))) 1
  rcases hb with rfl | ⟨rfl, rfl⟩ | ⟨rfl, rfl, rfl⟩
  all_goals
    go_enter Try.func8, Try.ntmps8
    go_wp2_with (first
      | (go_at_call 41; (with_reducible refine (CR.out _).mono ?_); rintro e w1 ⟨rfl, b1⟩; have r1 := heap_below r0 b1; have s1 := heap_below s0 b1; obtain ⟨c1, c2, c3, c4⟩ := fr_cells r1; obtain ⟨d1, d2, d3, d4⟩ := fr_cells s1)
      | fail)
    have bel : Below w.heap.size w w1 := bW0.trans (b1.mono bW0.size)
    obtain ⟨Y, hY, y1, y2, y3, y4, yb⟩ := res4 (R1 := H + 1) (R2 := H + 1 + 1) r1 s1 (by omega) (by omega) (by omega) bel 0 0 0 0
    refine bodyPost_ret (v := bad3) (by simp [results, Try.results8, go_sem, c1, c2, d1, d2, bad3]; try rfl) rfl ?_
    first | exact ⟨rfl, yb⟩ | (refine ⟨rfl, ?_⟩; repeat (first | exact bel | (refine below_set ?_ (by omega) _)))
theorem frac_Near_bad (P Q most : Int) (w : World) (h : nearB P Q most = false) :
    Calls Try.prog 8 #[.agg #[.int .i64 P, .int .i64 Q], .int .i64 most] w (NearBad w) := by
  refine near_bad_go P Q most _ _ _ w rfl rfl rfl ?_
  unfold nearB at h
  cases hr : rgB P Q
  · exact .inl rfl
  · right
    rw [hr] at h
    simp at h
    by_cases h1 : most < 1
    · left; simp [h1]
    · right; simp [h1]; have := h (by omega); omega
set_option maxHeartbeats 1000000 in
theorem farey_bad (n : Int) (w : World) (t : Bool) (h1 : decide (n < 1) = t) (h2 : t = true ∨ (t = false ∧ decide (30 < n) = true)) :
    Calls Try.prog 9 #[.int .i64 n] w fun e w' => e = .returned (.tuple #[.slice none 0 0, .int .i64 1]) ∧ w = w' := by
  rcases h2 with rfl | ⟨rfl, h2⟩
  all_goals
    go_enter Try.func9, Try.ntmps9
    go_wp2_with fail
    go_ret2
    exact ⟨rfl, rfl⟩

set_option maxRecDepth 100000 in
set_option maxHeartbeats 4000000 in
theorem fracNear_ok_ok (P Q most : Nat) (hP : P ≤ 1000000) (hQ1 : 1 ≤ Q) (hQ : Q ≤ 1000000) (hm1 : 1 ≤ most) (hm : most ≤ 1000000) (N : Nat) (hN1 : 1 ≤ N) (hN : N ≤ 30) (w : World) :
    Calls Try.prog 3 #[.agg #[.int .i64 (P : Int), .int .i64 (Q : Int)], .int .i64 (most : Int), .int .i64 (N : Int)] w fun e w' => e = .returned (.bool true) ∧ Below w.heap.size w w' := by
  have q1 : decide ((Q : Int) < 1) = false := by simp; omega
  have q2 : decide ((1000000 : Int) < Q) = false := by simp; omega
  have q3 : decide ((P : Int) < 0) = false := by simp
  have q4 : decide ((1000000 : Int) < P) = false := by simp; omega
  have q5 : decide ((most : Int) < 1) = false := by simp; omega
  have q6 : decide ((1000000 : Int) < most) = false := by simp; omega
  have CN := Lib.hid (fun X => frac_Near P Q most X hP hQ1 hQ hm1 hm)
  have CO := Lib.hid (fun X => ref_NearOf P Q most X hP hQ1 hQ hm1 hm)
  unfold NearPost at CN
  unfold NearOfPost at CO
  generalize (lowN P Q (most - 1)).1 / Nat.gcd (lowN P Q (most - 1)).1 (lowN P Q (most - 1)).2 = p1 at CN CO
  generalize (lowN P Q (most - 1)).2 / Nat.gcd (lowN P Q (most - 1)).1 (lowN P Q (most - 1)).2 = p2 at CN CO
  generalize (highN P Q (most - 1)).1 / Nat.gcd (highN P Q (most - 1)).1 (highN P Q (most - 1)).2 = p3 at CN CO
  generalize (highN P Q (most - 1)).2 / Nat.gcd (highN P Q (most - 1)).1 (highN P Q (most - 1)).2 = p4 at CN CO
  have n1 : decide ((N : Int) < 1) = false := by simp; omega
  have n2 : decide ((30 : Int) < N) = false := by simp; omega
  have CF := Lib.hid (fun X => frac_Farey N X hN1 hN)
  have CG := Lib.hid (fun X => ref_FareyOf N X hN1 hN)
  have hL1 : (srtQ (flQ N)).length = (flQ N).length := srtQ_len _
  have hL2 := flQ_len N hN
  have hL3 := flQ_pos N hN1
  have CE := Lib.hid (fun (ao bo : Option Addr) (ca cb : Nat) (X : World) => equal_fr (srtQ (flQ N)) (flQ N).length ao bo ca cb X hL1 (by omega))
  unfold FareyPost at CF
  unfold FareyOfPost at CG
  generalize (srtQ (flQ N)).flatMap encQ = LQ at CF CG CE
  obtain ⟨D, hD⟩ : ∃ D, (flQ N).length = D := ⟨_, rfl⟩
  rw [hD] at CF CG CE hL2 hL3
  clear hL1 hD
  obtain ⟨H, hH⟩ : ∃ H, w.heap.size = H := ⟨_, rfl⟩
  obtain ⟨W0, hW0⟩ : ∃ W0, w.alloc (.cells #[.int .i64 (P : Int), .int .i64 (Q : Int)] 23) = W0 := ⟨_, rfl⟩
  have bW0 : Below w.heap.size w W0 := by rw [← hW0]; exact (Below.refl _ _).alloc (Nat.le_refl _) _
  have x0 : W0.heap[H]? = some (.cells #[.int .i64 (P : Int), .int .i64 (Q : Int)] 23) := by rw [← hW0, ← hH]; exact heap_alloc_new w _
  have xc0 := heap_cell x0 0
  have xc1 := heap_cell x0 1
  simp only [List.getElem?_toArray, List.getElem?_cons_zero, List.getElem?_cons_succ] at xc0 xc1
  go_enter Try.func3, Try.ntmps3
  go_wp2_with fail
  (with_reducible refine (CN.out _).mono ?_)
  rintro e w1 ⟨rfl, b1⟩
  have x1 := heap_below x0 b1
  have bW1 : Below w.heap.size w w1 := bW0.trans (b1.mono bW0.size)
  go_wp2_with fail
  obtain ⟨W2, hW2⟩ : ∃ W2, (w1.alloc (.cells #[.int .i64 (p1 : Nat), .int .i64 (p2 : Nat)] 23)).alloc (.cells #[.int .i64 (p3 : Nat), .int .i64 (p4 : Nat)] 23) = W2 := ⟨_, rfl⟩
  have x2 : W2.heap[H]? = some (.cells #[.int .i64 (P : Int), .int .i64 (Q : Int)] 23) := by rw [← hW2]; exact heap_alloc_old _ _ (heap_alloc_old _ _ x1)
  have a2 : W2.heap[w1.heap.size]? = some (.cells #[.int .i64 (p1 : Nat), .int .i64 (p2 : Nat)] 23) := by rw [← hW2]; exact heap_alloc_old _ _ (heap_alloc_new _ _)
  have c2 : W2.heap[w1.heap.size + 1]? = some (.cells #[.int .i64 (p3 : Nat), .int .i64 (p4 : Nat)] 23) := by rw [← hW2]; exact heap_new' _ _ _ (by simp)
  have bW2 : Below w.heap.size w W2 := by rw [← hW2]; exact (bW1.alloc bW1.size _).alloc (by simp; have := bW1.size; omega) _
  rw [hW2]
  clear b1 x1 bW1 hW2
  (with_reducible refine (CF.out _).mono ?_)
  rintro e w3 ⟨g3, rfl, hR3, b3⟩
  have HR3 := Lib.hid hR3
  clear hR3
  have x3 := heap_below x2 b3
  have a3 := heap_below a2 b3
  have c3 := heap_below c2 b3
  have bW3 : Below w.heap.size w w3 := bW2.trans (b3.mono bW2.size)
  clear b3 x2 a2 c2 bW2
  go_wp2_with fail
  (with_reducible refine (CG.out _).mono ?_)
  rintro e w4 ⟨g4, cap4, rfl, hR4, b4⟩
  have HR4 := Lib.hid hR4
  have HR5 := Lib.hid (HR3.out.below b4)
  clear hR4
  have x4 := heap_below x3 b4
  have a4 := heap_below a3 b4
  have c4 := heap_below c3 b4
  have bW4 : Below w.heap.size w w4 := bW3.trans (b4.mono bW3.size)
  clear b4 x3 a3 c3 bW3 HR3
  go_wp2_with fail
  (with_reducible refine (CE.out _ _ _ _ _ HR5 HR4).mono ?_)
  rintro e w5 ⟨rfl, b5⟩
  have x5 := heap_below x4 b5
  have a5 := heap_below a4 b5
  have c5 := heap_below c4 b5
  have bW5 : Below w.heap.size w w5 := bW4.trans (b5.mono bW4.size)
  clear b5 x4 a4 c4 bW4 HR4 HR5
  have z1 := heap_cell x5 0
  have z2 := heap_cell x5 1
  have z3 := heap_cell a5 0
  have z4 := heap_cell a5 1
  have z5 := heap_cell c5 0
  have z6 := heap_cell c5 1
  simp only [List.getElem?_toArray, List.getElem?_cons_zero, List.getElem?_cons_succ] at z1 z2 z3 z4 z5 z6
  go_wp2_with fail
  (with_reducible refine (CO.out _).mono ?_)
  rintro e w6 ⟨rfl, b6⟩
  have a6 := heap_below a5 b6
  have c6 := heap_below c5 b6
  have bW6 : Below w.heap.size w w6 := bW5.trans (b6.mono bW5.size)
  clear b6 x5 a5 c5 bW5
  obtain ⟨W7, hW7⟩ : ∃ W7, (w6.alloc (.cells #[.int .i64 (p1 : Nat), .int .i64 (p2 : Nat)] 23)).alloc (.cells #[.int .i64 (p3 : Nat), .int .i64 (p4 : Nat)] 23) = W7 := ⟨_, rfl⟩
  have a7 : W7.heap[w1.heap.size]? = some (.cells #[.int .i64 (p1 : Nat), .int .i64 (p2 : Nat)] 23) := by rw [← hW7]; exact heap_alloc_old _ _ (heap_alloc_old _ _ a6)
  have c7 : W7.heap[w1.heap.size + 1]? = some (.cells #[.int .i64 (p3 : Nat), .int .i64 (p4 : Nat)] 23) := by rw [← hW7]; exact heap_alloc_old _ _ (heap_alloc_old _ _ c6)
  have d7 : W7.heap[w6.heap.size]? = some (.cells #[.int .i64 (p1 : Nat), .int .i64 (p2 : Nat)] 23) := by rw [← hW7]; exact heap_alloc_old _ _ (heap_alloc_new _ _)
  have e7 : W7.heap[w6.heap.size + 1]? = some (.cells #[.int .i64 (p3 : Nat), .int .i64 (p4 : Nat)] 23) := by rw [← hW7]; exact heap_new' _ _ _ (by simp)
  have bW7 : Below w.heap.size w W7 := by rw [← hW7]; exact (bW6.alloc bW6.size _).alloc (by simp; have := bW6.size; omega) _
  have y1 := heap_cell a7 0
  have y2 := heap_cell a7 1
  have y3 := heap_cell c7 0
  have y4 := heap_cell c7 1
  have y5 := heap_cell d7 0
  have y6 := heap_cell d7 1
  have y7 := heap_cell e7 0
  have y8 := heap_cell e7 1
  simp only [List.getElem?_toArray, List.getElem?_cons_zero, List.getElem?_cons_succ] at y1 y2 y3 y4 y5 y6 y7 y8
  have bel := bW7
  go_wp2_with fail
  go_ret
  exact ⟨rfl, bel⟩
set_option maxRecDepth 100000 in
set_option maxHeartbeats 4000000 in
theorem fracNear_ok_n1 (P Q most : Nat) (hP : P ≤ 1000000) (hQ1 : 1 ≤ Q) (hQ : Q ≤ 1000000) (hm1 : 1 ≤ most) (hm : most ≤ 1000000) (n : Int) (hn1 : decide (n < 1) = true) (w : World) :
    Calls Try.prog 3 #[.agg #[.int .i64 (P : Int), .int .i64 (Q : Int)], .int .i64 (most : Int), .int .i64 n] w fun e w' => e = .returned (.bool true) ∧ Below w.heap.size w w' := by
  have q1 : decide ((Q : Int) < 1) = false := by simp; omega
  have q2 : decide ((1000000 : Int) < Q) = false := by simp; omega
  have q3 : decide ((P : Int) < 0) = false := by simp
  have q4 : decide ((1000000 : Int) < P) = false := by simp; omega
  have q5 : decide ((most : Int) < 1) = false := by simp; omega
  have q6 : decide ((1000000 : Int) < most) = false := by simp; omega
  have CN := Lib.hid (fun X => frac_Near P Q most X hP hQ1 hQ hm1 hm)
  have CO := Lib.hid (fun X => ref_NearOf P Q most X hP hQ1 hQ hm1 hm)
  unfold NearPost at CN
  unfold NearOfPost at CO
  generalize (lowN P Q (most - 1)).1 / Nat.gcd (lowN P Q (most - 1)).1 (lowN P Q (most - 1)).2 = p1 at CN CO
  generalize (lowN P Q (most - 1)).2 / Nat.gcd (lowN P Q (most - 1)).1 (lowN P Q (most - 1)).2 = p2 at CN CO
  generalize (highN P Q (most - 1)).1 / Nat.gcd (highN P Q (most - 1)).1 (highN P Q (most - 1)).2 = p3 at CN CO
  generalize (highN P Q (most - 1)).2 / Nat.gcd (highN P Q (most - 1)).1 (highN P Q (most - 1)).2 = p4 at CN CO
  have CF := Lib.hid (fun X => farey_bad n X _ rfl (.inl hn1))
  obtain ⟨H, hH⟩ : ∃ H, w.heap.size = H := ⟨_, rfl⟩
  obtain ⟨W0, hW0⟩ : ∃ W0, w.alloc (.cells #[.int .i64 (P : Int), .int .i64 (Q : Int)] 23) = W0 := ⟨_, rfl⟩
  have bW0 : Below w.heap.size w W0 := by rw [← hW0]; exact (Below.refl _ _).alloc (Nat.le_refl _) _
  have x0 : W0.heap[H]? = some (.cells #[.int .i64 (P : Int), .int .i64 (Q : Int)] 23) := by rw [← hW0, ← hH]; exact heap_alloc_new w _
  have xc0 := heap_cell x0 0
  have xc1 := heap_cell x0 1
  simp only [List.getElem?_toArray, List.getElem?_cons_zero, List.getElem?_cons_succ] at xc0 xc1
  go_enter Try.func3, Try.ntmps3
  go_wp2_with fail
  (with_reducible refine (CN.out _).mono ?_)
  rintro e w1 ⟨rfl, b1⟩
  have x1 := heap_below x0 b1
  have bW1 : Below w.heap.size w w1 := bW0.trans (b1.mono bW0.size)
  go_wp2_with fail
  obtain ⟨W2, hW2⟩ : ∃ W2, (w1.alloc (.cells #[.int .i64 (p1 : Nat), .int .i64 (p2 : Nat)] 23)).alloc (.cells #[.int .i64 (p3 : Nat), .int .i64 (p4 : Nat)] 23) = W2 := ⟨_, rfl⟩
  have x2 : W2.heap[H]? = some (.cells #[.int .i64 (P : Int), .int .i64 (Q : Int)] 23) := by rw [← hW2]; exact heap_alloc_old _ _ (heap_alloc_old _ _ x1)
  have a2 : W2.heap[w1.heap.size]? = some (.cells #[.int .i64 (p1 : Nat), .int .i64 (p2 : Nat)] 23) := by rw [← hW2]; exact heap_alloc_old _ _ (heap_alloc_new _ _)
  have c2 : W2.heap[w1.heap.size + 1]? = some (.cells #[.int .i64 (p3 : Nat), .int .i64 (p4 : Nat)] 23) := by rw [← hW2]; exact heap_new' _ _ _ (by simp)
  have bW2 : Below w.heap.size w W2 := by rw [← hW2]; exact (bW1.alloc bW1.size _).alloc (by simp; have := bW1.size; omega) _
  rw [hW2]
  clear b1 x1 bW1 hW2
  (with_reducible refine (CF.out _).mono ?_)
  rintro e w3 ⟨rfl, rfl⟩
  have x5 := x2
  have a5 := a2
  have c5 := c2
  have bW5 := bW2
  clear x2 a2 c2 bW2
  have z1 := heap_cell x5 0
  have z2 := heap_cell x5 1
  have z3 := heap_cell a5 0
  have z4 := heap_cell a5 1
  have z5 := heap_cell c5 0
  have z6 := heap_cell c5 1
  simp only [List.getElem?_toArray, List.getElem?_cons_zero, List.getElem?_cons_succ] at z1 z2 z3 z4 z5 z6
  go_wp2_with fail
  (with_reducible refine (CO.out _).mono ?_)
  rintro e w6 ⟨rfl, b6⟩
  have a6 := heap_below a5 b6
  have c6 := heap_below c5 b6
  have bW6 : Below w.heap.size w w6 := bW5.trans (b6.mono bW5.size)
  clear b6 x5 a5 c5 bW5
  obtain ⟨W7, hW7⟩ : ∃ W7, (w6.alloc (.cells #[.int .i64 (p1 : Nat), .int .i64 (p2 : Nat)] 23)).alloc (.cells #[.int .i64 (p3 : Nat), .int .i64 (p4 : Nat)] 23) = W7 := ⟨_, rfl⟩
  have a7 : W7.heap[w1.heap.size]? = some (.cells #[.int .i64 (p1 : Nat), .int .i64 (p2 : Nat)] 23) := by rw [← hW7]; exact heap_alloc_old _ _ (heap_alloc_old _ _ a6)
  have c7 : W7.heap[w1.heap.size + 1]? = some (.cells #[.int .i64 (p3 : Nat), .int .i64 (p4 : Nat)] 23) := by rw [← hW7]; exact heap_alloc_old _ _ (heap_alloc_old _ _ c6)
  have d7 : W7.heap[w6.heap.size]? = some (.cells #[.int .i64 (p1 : Nat), .int .i64 (p2 : Nat)] 23) := by rw [← hW7]; exact heap_alloc_old _ _ (heap_alloc_new _ _)
  have e7 : W7.heap[w6.heap.size + 1]? = some (.cells #[.int .i64 (p3 : Nat), .int .i64 (p4 : Nat)] 23) := by rw [← hW7]; exact heap_new' _ _ _ (by simp)
  have bW7 : Below w.heap.size w W7 := by rw [← hW7]; exact (bW6.alloc bW6.size _).alloc (by simp; have := bW6.size; omega) _
  have y1 := heap_cell a7 0
  have y2 := heap_cell a7 1
  have y3 := heap_cell c7 0
  have y4 := heap_cell c7 1
  have y5 := heap_cell d7 0
  have y6 := heap_cell d7 1
  have y7 := heap_cell e7 0
  have y8 := heap_cell e7 1
  simp only [List.getElem?_toArray, List.getElem?_cons_zero, List.getElem?_cons_succ] at y1 y2 y3 y4 y5 y6 y7 y8
  have bel := bW7
  go_wp2_with fail
  go_ret
  exact ⟨rfl, bel⟩
set_option maxRecDepth 100000 in
set_option maxHeartbeats 4000000 in
theorem fracNear_ok_n2 (P Q most : Nat) (hP : P ≤ 1000000) (hQ1 : 1 ≤ Q) (hQ : Q ≤ 1000000) (hm1 : 1 ≤ most) (hm : most ≤ 1000000) (n : Int) (hn1 : decide (n < 1) = false) (hn2 : decide (30 < n) = true) (w : World) :
    Calls Try.prog 3 #[.agg #[.int .i64 (P : Int), .int .i64 (Q : Int)], .int .i64 (most : Int), .int .i64 n] w fun e w' => e = .returned (.bool true) ∧ Below w.heap.size w w' := by
  have q1 : decide ((Q : Int) < 1) = false := by simp; omega
  have q2 : decide ((1000000 : Int) < Q) = false := by simp; omega
  have q3 : decide ((P : Int) < 0) = false := by simp
  have q4 : decide ((1000000 : Int) < P) = false := by simp; omega
  have q5 : decide ((most : Int) < 1) = false := by simp; omega
  have q6 : decide ((1000000 : Int) < most) = false := by simp; omega
  have CN := Lib.hid (fun X => frac_Near P Q most X hP hQ1 hQ hm1 hm)
  have CO := Lib.hid (fun X => ref_NearOf P Q most X hP hQ1 hQ hm1 hm)
  unfold NearPost at CN
  unfold NearOfPost at CO
  generalize (lowN P Q (most - 1)).1 / Nat.gcd (lowN P Q (most - 1)).1 (lowN P Q (most - 1)).2 = p1 at CN CO
  generalize (lowN P Q (most - 1)).2 / Nat.gcd (lowN P Q (most - 1)).1 (lowN P Q (most - 1)).2 = p2 at CN CO
  generalize (highN P Q (most - 1)).1 / Nat.gcd (highN P Q (most - 1)).1 (highN P Q (most - 1)).2 = p3 at CN CO
  generalize (highN P Q (most - 1)).2 / Nat.gcd (highN P Q (most - 1)).1 (highN P Q (most - 1)).2 = p4 at CN CO
  have CF := Lib.hid (fun X => farey_bad n X _ rfl (.inr ⟨hn1, hn2⟩))
  obtain ⟨H, hH⟩ : ∃ H, w.heap.size = H := ⟨_, rfl⟩
  obtain ⟨W0, hW0⟩ : ∃ W0, w.alloc (.cells #[.int .i64 (P : Int), .int .i64 (Q : Int)] 23) = W0 := ⟨_, rfl⟩
  have bW0 : Below w.heap.size w W0 := by rw [← hW0]; exact (Below.refl _ _).alloc (Nat.le_refl _) _
  have x0 : W0.heap[H]? = some (.cells #[.int .i64 (P : Int), .int .i64 (Q : Int)] 23) := by rw [← hW0, ← hH]; exact heap_alloc_new w _
  have xc0 := heap_cell x0 0
  have xc1 := heap_cell x0 1
  simp only [List.getElem?_toArray, List.getElem?_cons_zero, List.getElem?_cons_succ] at xc0 xc1
  go_enter Try.func3, Try.ntmps3
  go_wp2_with fail
  (with_reducible refine (CN.out _).mono ?_)
  rintro e w1 ⟨rfl, b1⟩
  have x1 := heap_below x0 b1
  have bW1 : Below w.heap.size w w1 := bW0.trans (b1.mono bW0.size)
  go_wp2_with fail
  obtain ⟨W2, hW2⟩ : ∃ W2, (w1.alloc (.cells #[.int .i64 (p1 : Nat), .int .i64 (p2 : Nat)] 23)).alloc (.cells #[.int .i64 (p3 : Nat), .int .i64 (p4 : Nat)] 23) = W2 := ⟨_, rfl⟩
  have x2 : W2.heap[H]? = some (.cells #[.int .i64 (P : Int), .int .i64 (Q : Int)] 23) := by rw [← hW2]; exact heap_alloc_old _ _ (heap_alloc_old _ _ x1)
  have a2 : W2.heap[w1.heap.size]? = some (.cells #[.int .i64 (p1 : Nat), .int .i64 (p2 : Nat)] 23) := by rw [← hW2]; exact heap_alloc_old _ _ (heap_alloc_new _ _)
  have c2 : W2.heap[w1.heap.size + 1]? = some (.cells #[.int .i64 (p3 : Nat), .int .i64 (p4 : Nat)] 23) := by rw [← hW2]; exact heap_new' _ _ _ (by simp)
  have bW2 : Below w.heap.size w W2 := by rw [← hW2]; exact (bW1.alloc bW1.size _).alloc (by simp; have := bW1.size; omega) _
  rw [hW2]
  clear b1 x1 bW1 hW2
  (with_reducible refine (CF.out _).mono ?_)
  rintro e w3 ⟨rfl, rfl⟩
  have x5 := x2
  have a5 := a2
  have c5 := c2
  have bW5 := bW2
  clear x2 a2 c2 bW2
  have z1 := heap_cell x5 0
  have z2 := heap_cell x5 1
  have z3 := heap_cell a5 0
  have z4 := heap_cell a5 1
  have z5 := heap_cell c5 0
  have z6 := heap_cell c5 1
  simp only [List.getElem?_toArray, List.getElem?_cons_zero, List.getElem?_cons_succ] at z1 z2 z3 z4 z5 z6
  go_wp2_with fail
  (with_reducible refine (CO.out _).mono ?_)
  rintro e w6 ⟨rfl, b6⟩
  have a6 := heap_below a5 b6
  have c6 := heap_below c5 b6
  have bW6 : Below w.heap.size w w6 := bW5.trans (b6.mono bW5.size)
  clear b6 x5 a5 c5 bW5
  obtain ⟨W7, hW7⟩ : ∃ W7, (w6.alloc (.cells #[.int .i64 (p1 : Nat), .int .i64 (p2 : Nat)] 23)).alloc (.cells #[.int .i64 (p3 : Nat), .int .i64 (p4 : Nat)] 23) = W7 := ⟨_, rfl⟩
  have a7 : W7.heap[w1.heap.size]? = some (.cells #[.int .i64 (p1 : Nat), .int .i64 (p2 : Nat)] 23) := by rw [← hW7]; exact heap_alloc_old _ _ (heap_alloc_old _ _ a6)
  have c7 : W7.heap[w1.heap.size + 1]? = some (.cells #[.int .i64 (p3 : Nat), .int .i64 (p4 : Nat)] 23) := by rw [← hW7]; exact heap_alloc_old _ _ (heap_alloc_old _ _ c6)
  have d7 : W7.heap[w6.heap.size]? = some (.cells #[.int .i64 (p1 : Nat), .int .i64 (p2 : Nat)] 23) := by rw [← hW7]; exact heap_alloc_old _ _ (heap_alloc_new _ _)
  have e7 : W7.heap[w6.heap.size + 1]? = some (.cells #[.int .i64 (p3 : Nat), .int .i64 (p4 : Nat)] 23) := by rw [← hW7]; exact heap_new' _ _ _ (by simp)
  have bW7 : Below w.heap.size w W7 := by rw [← hW7]; exact (bW6.alloc bW6.size _).alloc (by simp; have := bW6.size; omega) _
  have y1 := heap_cell a7 0
  have y2 := heap_cell a7 1
  have y3 := heap_cell c7 0
  have y4 := heap_cell c7 1
  have y5 := heap_cell d7 0
  have y6 := heap_cell d7 1
  have y7 := heap_cell e7 0
  have y8 := heap_cell e7 1
  simp only [List.getElem?_toArray, List.getElem?_cons_zero, List.getElem?_cons_succ] at y1 y2 y3 y4 y5 y6 y7 y8
  have bel := bW7
  go_wp2_with fail
  go_ret
  exact ⟨rfl, bel⟩
set_option maxRecDepth 100000 in
set_option maxHeartbeats 4000000 in
theorem fracNear_q1_ok (P Q most : Int) (hB : nearB P Q most = false) (hq1 : decide (Q < 1) = true) (N : Nat) (hN1 : 1 ≤ N) (hN : N ≤ 30) (w : World) :
    Calls Try.prog 3 #[.agg #[.int .i64 P, .int .i64 Q], .int .i64 most, .int .i64 (N : Int)] w fun e w' => e = .returned (.bool true) ∧ Below w.heap.size w w' := by
  have CN := Lib.hid (fun X => frac_Near_bad P Q most X hB)
  unfold NearBad bad3 at CN
  clear hB
  have n1 : decide ((N : Int) < 1) = false := by simp; omega
  have n2 : decide ((30 : Int) < N) = false := by simp; omega
  have CF := Lib.hid (fun X => frac_Farey N X hN1 hN)
  have CG := Lib.hid (fun X => ref_FareyOf N X hN1 hN)
  have hL1 : (srtQ (flQ N)).length = (flQ N).length := srtQ_len _
  have hL2 := flQ_len N hN
  have hL3 := flQ_pos N hN1
  have CE := Lib.hid (fun (ao bo : Option Addr) (ca cb : Nat) (X : World) => equal_fr (srtQ (flQ N)) (flQ N).length ao bo ca cb X hL1 (by omega))
  unfold FareyPost at CF
  unfold FareyOfPost at CG
  generalize (srtQ (flQ N)).flatMap encQ = LQ at CF CG CE
  obtain ⟨D, hD⟩ : ∃ D, (flQ N).length = D := ⟨_, rfl⟩
  rw [hD] at CF CG CE hL2 hL3
  clear hL1 hD
  obtain ⟨H, hH⟩ : ∃ H, w.heap.size = H := ⟨_, rfl⟩
  obtain ⟨W0, hW0⟩ : ∃ W0, w.alloc (.cells #[.int .i64 P, .int .i64 Q] 23) = W0 := ⟨_, rfl⟩
  have bW0 : Below w.heap.size w W0 := by rw [← hW0]; exact (Below.refl _ _).alloc (Nat.le_refl _) _
  have x0 : W0.heap[H]? = some (.cells #[.int .i64 P, .int .i64 Q] 23) := by rw [← hW0, ← hH]; exact heap_alloc_new w _
  have xc0 := heap_cell x0 0
  have xc1 := heap_cell x0 1
  simp only [List.getElem?_toArray, List.getElem?_cons_zero, List.getElem?_cons_succ] at xc0 xc1
  go_enter Try.func3, Try.ntmps3
  go_wp2_with fail
  (with_reducible refine (CN.out _).mono ?_)
  rintro e w1 ⟨rfl, b1⟩
  have x1 := heap_below x0 b1
  have bW1 : Below w.heap.size w w1 := bW0.trans (b1.mono bW0.size)
  go_wp2_with fail
  obtain ⟨W2, hW2⟩ : ∃ W2, (w1.alloc (.cells #[.int .i64 0, .int .i64 0] 23)).alloc (.cells #[.int .i64 0, .int .i64 0] 23) = W2 := ⟨_, rfl⟩
  have x2 : W2.heap[H]? = some (.cells #[.int .i64 P, .int .i64 Q] 23) := by rw [← hW2]; exact heap_alloc_old _ _ (heap_alloc_old _ _ x1)
  have a2 : W2.heap[w1.heap.size]? = some (.cells #[.int .i64 0, .int .i64 0] 23) := by rw [← hW2]; exact heap_alloc_old _ _ (heap_alloc_new _ _)
  have c2 : W2.heap[w1.heap.size + 1]? = some (.cells #[.int .i64 0, .int .i64 0] 23) := by rw [← hW2]; exact heap_new' _ _ _ (by simp)
  have bW2 : Below w.heap.size w W2 := by rw [← hW2]; exact (bW1.alloc bW1.size _).alloc (by simp; have := bW1.size; omega) _
  rw [hW2]
  clear b1 x1 bW1 hW2
  (with_reducible refine (CF.out _).mono ?_)
  rintro e w3 ⟨g3, rfl, hR3, b3⟩
  have HR3 := Lib.hid hR3
  clear hR3
  have x3 := heap_below x2 b3
  have a3 := heap_below a2 b3
  have c3 := heap_below c2 b3
  have bW3 : Below w.heap.size w w3 := bW2.trans (b3.mono bW2.size)
  clear b3 x2 a2 c2 bW2
  go_wp2_with fail
  (with_reducible refine (CG.out _).mono ?_)
  rintro e w4 ⟨g4, cap4, rfl, hR4, b4⟩
  have HR4 := Lib.hid hR4
  have HR5 := Lib.hid (HR3.out.below b4)
  clear hR4
  have x4 := heap_below x3 b4
  have a4 := heap_below a3 b4
  have c4 := heap_below c3 b4
  have bW4 : Below w.heap.size w w4 := bW3.trans (b4.mono bW3.size)
  clear b4 x3 a3 c3 bW3 HR3
  go_wp2_with fail
  (with_reducible refine (CE.out _ _ _ _ _ HR5 HR4).mono ?_)
  rintro e w5 ⟨rfl, b5⟩
  have x5 := heap_below x4 b5
  have a5 := heap_below a4 b5
  have c5 := heap_below c4 b5
  have bW5 : Below w.heap.size w w5 := bW4.trans (b5.mono bW4.size)
  clear b5 x4 a4 c4 bW4 HR4 HR5
  have z1 := heap_cell x5 0
  have z2 := heap_cell x5 1
  have z3 := heap_cell a5 0
  have z4 := heap_cell a5 1
  have z5 := heap_cell c5 0
  have z6 := heap_cell c5 1
  simp only [List.getElem?_toArray, List.getElem?_cons_zero, List.getElem?_cons_succ] at z1 z2 z3 z4 z5 z6
  go_wp2_with fail
  have bel := bW5
  go_ret
  exact ⟨rfl, bel⟩
set_option maxRecDepth 100000 in
set_option maxHeartbeats 4000000 in
theorem fracNear_q1_n1 (P Q most : Int) (hB : nearB P Q most = false) (hq1 : decide (Q < 1) = true) (n : Int) (hn1 : decide (n < 1) = true) (w : World) :
    Calls Try.prog 3 #[.agg #[.int .i64 P, .int .i64 Q], .int .i64 most, .int .i64 n] w fun e w' => e = .returned (.bool true) ∧ Below w.heap.size w w' := by
  have CN := Lib.hid (fun X => frac_Near_bad P Q most X hB)
  unfold NearBad bad3 at CN
  clear hB
  have CF := Lib.hid (fun X => farey_bad n X _ rfl (.inl hn1))
  obtain ⟨H, hH⟩ : ∃ H, w.heap.size = H := ⟨_, rfl⟩
  obtain ⟨W0, hW0⟩ : ∃ W0, w.alloc (.cells #[.int .i64 P, .int .i64 Q] 23) = W0 := ⟨_, rfl⟩
  have bW0 : Below w.heap.size w W0 := by rw [← hW0]; exact (Below.refl _ _).alloc (Nat.le_refl _) _
  have x0 : W0.heap[H]? = some (.cells #[.int .i64 P, .int .i64 Q] 23) := by rw [← hW0, ← hH]; exact heap_alloc_new w _
  have xc0 := heap_cell x0 0
  have xc1 := heap_cell x0 1
  simp only [List.getElem?_toArray, List.getElem?_cons_zero, List.getElem?_cons_succ] at xc0 xc1
  go_enter Try.func3, Try.ntmps3
  go_wp2_with fail
  (with_reducible refine (CN.out _).mono ?_)
  rintro e w1 ⟨rfl, b1⟩
  have x1 := heap_below x0 b1
  have bW1 : Below w.heap.size w w1 := bW0.trans (b1.mono bW0.size)
  go_wp2_with fail
  obtain ⟨W2, hW2⟩ : ∃ W2, (w1.alloc (.cells #[.int .i64 0, .int .i64 0] 23)).alloc (.cells #[.int .i64 0, .int .i64 0] 23) = W2 := ⟨_, rfl⟩
  have x2 : W2.heap[H]? = some (.cells #[.int .i64 P, .int .i64 Q] 23) := by rw [← hW2]; exact heap_alloc_old _ _ (heap_alloc_old _ _ x1)
  have a2 : W2.heap[w1.heap.size]? = some (.cells #[.int .i64 0, .int .i64 0] 23) := by rw [← hW2]; exact heap_alloc_old _ _ (heap_alloc_new _ _)
  have c2 : W2.heap[w1.heap.size + 1]? = some (.cells #[.int .i64 0, .int .i64 0] 23) := by rw [← hW2]; exact heap_new' _ _ _ (by simp)
  have bW2 : Below w.heap.size w W2 := by rw [← hW2]; exact (bW1.alloc bW1.size _).alloc (by simp; have := bW1.size; omega) _
  rw [hW2]
  clear b1 x1 bW1 hW2
  (with_reducible refine (CF.out _).mono ?_)
  rintro e w3 ⟨rfl, rfl⟩
  have x5 := x2
  have a5 := a2
  have c5 := c2
  have bW5 := bW2
  clear x2 a2 c2 bW2
  have z1 := heap_cell x5 0
  have z2 := heap_cell x5 1
  have z3 := heap_cell a5 0
  have z4 := heap_cell a5 1
  have z5 := heap_cell c5 0
  have z6 := heap_cell c5 1
  simp only [List.getElem?_toArray, List.getElem?_cons_zero, List.getElem?_cons_succ] at z1 z2 z3 z4 z5 z6
  go_wp2_with fail
  have bel := bW5
  go_ret
  exact ⟨rfl, bel⟩
set_option maxRecDepth 100000 in
set_option maxHeartbeats 4000000 in
theorem fracNear_q1_n2 (P Q most : Int) (hB : nearB P Q most = false) (hq1 : decide (Q < 1) = true) (n : Int) (hn1 : decide (n < 1) = false) (hn2 : decide (30 < n) = true) (w : World) :
    Calls Try.prog 3 #[.agg #[.int .i64 P, .int .i64 Q], .int .i64 most, .int .i64 n] w fun e w' => e = .returned (.bool true) ∧ Below w.heap.size w w' := by
  have CN := Lib.hid (fun X => frac_Near_bad P Q most X hB)
  unfold NearBad bad3 at CN
  clear hB
  have CF := Lib.hid (fun X => farey_bad n X _ rfl (.inr ⟨hn1, hn2⟩))
  obtain ⟨H, hH⟩ : ∃ H, w.heap.size = H := ⟨_, rfl⟩
  obtain ⟨W0, hW0⟩ : ∃ W0, w.alloc (.cells #[.int .i64 P, .int .i64 Q] 23) = W0 := ⟨_, rfl⟩
  have bW0 : Below w.heap.size w W0 := by rw [← hW0]; exact (Below.refl _ _).alloc (Nat.le_refl _) _
  have x0 : W0.heap[H]? = some (.cells #[.int .i64 P, .int .i64 Q] 23) := by rw [← hW0, ← hH]; exact heap_alloc_new w _
  have xc0 := heap_cell x0 0
  have xc1 := heap_cell x0 1
  simp only [List.getElem?_toArray, List.getElem?_cons_zero, List.getElem?_cons_succ] at xc0 xc1
  go_enter Try.func3, Try.ntmps3
  go_wp2_with fail
  (with_reducible refine (CN.out _).mono ?_)
  rintro e w1 ⟨rfl, b1⟩
  have x1 := heap_below x0 b1
  have bW1 : Below w.heap.size w w1 := bW0.trans (b1.mono bW0.size)
  go_wp2_with fail
  obtain ⟨W2, hW2⟩ : ∃ W2, (w1.alloc (.cells #[.int .i64 0, .int .i64 0] 23)).alloc (.cells #[.int .i64 0, .int .i64 0] 23) = W2 := ⟨_, rfl⟩
  have x2 : W2.heap[H]? = some (.cells #[.int .i64 P, .int .i64 Q] 23) := by rw [← hW2]; exact heap_alloc_old _ _ (heap_alloc_old _ _ x1)
  have a2 : W2.heap[w1.heap.size]? = some (.cells #[.int .i64 0, .int .i64 0] 23) := by rw [← hW2]; exact heap_alloc_old _ _ (heap_alloc_new _ _)
  have c2 : W2.heap[w1.heap.size + 1]? = some (.cells #[.int .i64 0, .int .i64 0] 23) := by rw [← hW2]; exact heap_new' _ _ _ (by simp)
  have bW2 : Below w.heap.size w W2 := by rw [← hW2]; exact (bW1.alloc bW1.size _).alloc (by simp; have := bW1.size; omega) _
  rw [hW2]
  clear b1 x1 bW1 hW2
  (with_reducible refine (CF.out _).mono ?_)
  rintro e w3 ⟨rfl, rfl⟩
  have x5 := x2
  have a5 := a2
  have c5 := c2
  have bW5 := bW2
  clear x2 a2 c2 bW2
  have z1 := heap_cell x5 0
  have z2 := heap_cell x5 1
  have z3 := heap_cell a5 0
  have z4 := heap_cell a5 1
  have z5 := heap_cell c5 0
  have z6 := heap_cell c5 1
  simp only [List.getElem?_toArray, List.getElem?_cons_zero, List.getElem?_cons_succ] at z1 z2 z3 z4 z5 z6
  go_wp2_with fail
  have bel := bW5
  go_ret
  exact ⟨rfl, bel⟩
set_option maxRecDepth 100000 in
set_option maxHeartbeats 4000000 in
theorem fracNear_q2_ok (P Q most : Int) (hB : nearB P Q most = false) (hq1 : decide (Q < 1) = false) (hq2 : decide (1000000 < Q) = true) (N : Nat) (hN1 : 1 ≤ N) (hN : N ≤ 30) (w : World) :
    Calls Try.prog 3 #[.agg #[.int .i64 P, .int .i64 Q], .int .i64 most, .int .i64 (N : Int)] w fun e w' => e = .returned (.bool true) ∧ Below w.heap.size w w' := by
  have CN := Lib.hid (fun X => frac_Near_bad P Q most X hB)
  unfold NearBad bad3 at CN
  clear hB
  have n1 : decide ((N : Int) < 1) = false := by simp; omega
  have n2 : decide ((30 : Int) < N) = false := by simp; omega
  have CF := Lib.hid (fun X => frac_Farey N X hN1 hN)
  have CG := Lib.hid (fun X => ref_FareyOf N X hN1 hN)
  have hL1 : (srtQ (flQ N)).length = (flQ N).length := srtQ_len _
  have hL2 := flQ_len N hN
  have hL3 := flQ_pos N hN1
  have CE := Lib.hid (fun (ao bo : Option Addr) (ca cb : Nat) (X : World) => equal_fr (srtQ (flQ N)) (flQ N).length ao bo ca cb X hL1 (by omega))
  unfold FareyPost at CF
  unfold FareyOfPost at CG
  generalize (srtQ (flQ N)).flatMap encQ = LQ at CF CG CE
  obtain ⟨D, hD⟩ : ∃ D, (flQ N).length = D := ⟨_, rfl⟩
  rw [hD] at CF CG CE hL2 hL3
  clear hL1 hD
  obtain ⟨H, hH⟩ : ∃ H, w.heap.size = H := ⟨_, rfl⟩
  obtain ⟨W0, hW0⟩ : ∃ W0, w.alloc (.cells #[.int .i64 P, .int .i64 Q] 23) = W0 := ⟨_, rfl⟩
  have bW0 : Below w.heap.size w W0 := by rw [← hW0]; exact (Below.refl _ _).alloc (Nat.le_refl _) _
  have x0 : W0.heap[H]? = some (.cells #[.int .i64 P, .int .i64 Q] 23) := by rw [← hW0, ← hH]; exact heap_alloc_new w _
  have xc0 := heap_cell x0 0
  have xc1 := heap_cell x0 1
  simp only [List.getElem?_toArray, List.getElem?_cons_zero, List.getElem?_cons_succ] at xc0 xc1
  go_enter Try.func3, Try.ntmps3
  go_wp2_with fail
  (with_reducible refine (CN.out _).mono ?_)
  rintro e w1 ⟨rfl, b1⟩
  have x1 := heap_below x0 b1
  have bW1 : Below w.heap.size w w1 := bW0.trans (b1.mono bW0.size)
  go_wp2_with fail
  obtain ⟨W2, hW2⟩ : ∃ W2, (w1.alloc (.cells #[.int .i64 0, .int .i64 0] 23)).alloc (.cells #[.int .i64 0, .int .i64 0] 23) = W2 := ⟨_, rfl⟩
  have x2 : W2.heap[H]? = some (.cells #[.int .i64 P, .int .i64 Q] 23) := by rw [← hW2]; exact heap_alloc_old _ _ (heap_alloc_old _ _ x1)
  have a2 : W2.heap[w1.heap.size]? = some (.cells #[.int .i64 0, .int .i64 0] 23) := by rw [← hW2]; exact heap_alloc_old _ _ (heap_alloc_new _ _)
  have c2 : W2.heap[w1.heap.size + 1]? = some (.cells #[.int .i64 0, .int .i64 0] 23) := by rw [← hW2]; exact heap_new' _ _ _ (by simp)
  have bW2 : Below w.heap.size w W2 := by rw [← hW2]; exact (bW1.alloc bW1.size _).alloc (by simp; have := bW1.size; omega) _
  rw [hW2]
  clear b1 x1 bW1 hW2
  (with_reducible refine (CF.out _).mono ?_)
  rintro e w3 ⟨g3, rfl, hR3, b3⟩
  have HR3 := Lib.hid hR3
  clear hR3
  have x3 := heap_below x2 b3
  have a3 := heap_below a2 b3
  have c3 := heap_below c2 b3
  have bW3 : Below w.heap.size w w3 := bW2.trans (b3.mono bW2.size)
  clear b3 x2 a2 c2 bW2
  go_wp2_with fail
  (with_reducible refine (CG.out _).mono ?_)
  rintro e w4 ⟨g4, cap4, rfl, hR4, b4⟩
  have HR4 := Lib.hid hR4
  have HR5 := Lib.hid (HR3.out.below b4)
  clear hR4
  have x4 := heap_below x3 b4
  have a4 := heap_below a3 b4
  have c4 := heap_below c3 b4
  have bW4 : Below w.heap.size w w4 := bW3.trans (b4.mono bW3.size)
  clear b4 x3 a3 c3 bW3 HR3
  go_wp2_with fail
  (with_reducible refine (CE.out _ _ _ _ _ HR5 HR4).mono ?_)
  rintro e w5 ⟨rfl, b5⟩
  have x5 := heap_below x4 b5
  have a5 := heap_below a4 b5
  have c5 := heap_below c4 b5
  have bW5 : Below w.heap.size w w5 := bW4.trans (b5.mono bW4.size)
  clear b5 x4 a4 c4 bW4 HR4 HR5
  have z1 := heap_cell x5 0
  have z2 := heap_cell x5 1
  have z3 := heap_cell a5 0
  have z4 := heap_cell a5 1
  have z5 := heap_cell c5 0
  have z6 := heap_cell c5 1
  simp only [List.getElem?_toArray, List.getElem?_cons_zero, List.getElem?_cons_succ] at z1 z2 z3 z4 z5 z6
  go_wp2_with fail
  have bel := bW5
  go_ret
  exact ⟨rfl, bel⟩
set_option maxRecDepth 100000 in
set_option maxHeartbeats 4000000 in
theorem fracNear_q2_n1 (P Q most : Int) (hB : nearB P Q most = false) (hq1 : decide (Q < 1) = false) (hq2 : decide (1000000 < Q) = true) (n : Int) (hn1 : decide (n < 1) = true) (w : World) :
    Calls Try.prog 3 #[.agg #[.int .i64 P, .int .i64 Q], .int .i64 most, .int .i64 n] w fun e w' => e = .returned (.bool true) ∧ Below w.heap.size w w' := by
  have CN := Lib.hid (fun X => frac_Near_bad P Q most X hB)
  unfold NearBad bad3 at CN
  clear hB
  have CF := Lib.hid (fun X => farey_bad n X _ rfl (.inl hn1))
  obtain ⟨H, hH⟩ : ∃ H, w.heap.size = H := ⟨_, rfl⟩
  obtain ⟨W0, hW0⟩ : ∃ W0, w.alloc (.cells #[.int .i64 P, .int .i64 Q] 23) = W0 := ⟨_, rfl⟩
  have bW0 : Below w.heap.size w W0 := by rw [← hW0]; exact (Below.refl _ _).alloc (Nat.le_refl _) _
  have x0 : W0.heap[H]? = some (.cells #[.int .i64 P, .int .i64 Q] 23) := by rw [← hW0, ← hH]; exact heap_alloc_new w _
  have xc0 := heap_cell x0 0
  have xc1 := heap_cell x0 1
  simp only [List.getElem?_toArray, List.getElem?_cons_zero, List.getElem?_cons_succ] at xc0 xc1
  go_enter Try.func3, Try.ntmps3
  go_wp2_with fail
  (with_reducible refine (CN.out _).mono ?_)
  rintro e w1 ⟨rfl, b1⟩
  have x1 := heap_below x0 b1
  have bW1 : Below w.heap.size w w1 := bW0.trans (b1.mono bW0.size)
  go_wp2_with fail
  obtain ⟨W2, hW2⟩ : ∃ W2, (w1.alloc (.cells #[.int .i64 0, .int .i64 0] 23)).alloc (.cells #[.int .i64 0, .int .i64 0] 23) = W2 := ⟨_, rfl⟩
  have x2 : W2.heap[H]? = some (.cells #[.int .i64 P, .int .i64 Q] 23) := by rw [← hW2]; exact heap_alloc_old _ _ (heap_alloc_old _ _ x1)
  have a2 : W2.heap[w1.heap.size]? = some (.cells #[.int .i64 0, .int .i64 0] 23) := by rw [← hW2]; exact heap_alloc_old _ _ (heap_alloc_new _ _)
  have c2 : W2.heap[w1.heap.size + 1]? = some (.cells #[.int .i64 0, .int .i64 0] 23) := by rw [← hW2]; exact heap_new' _ _ _ (by simp)
  have bW2 : Below w.heap.size w W2 := by rw [← hW2]; exact (bW1.alloc bW1.size _).alloc (by simp; have := bW1.size; omega) _
  rw [hW2]
  clear b1 x1 bW1 hW2
  (with_reducible refine (CF.out _).mono ?_)
  rintro e w3 ⟨rfl, rfl⟩
  have x5 := x2
  have a5 := a2
  have c5 := c2
  have bW5 := bW2
  clear x2 a2 c2 bW2
  have z1 := heap_cell x5 0
  have z2 := heap_cell x5 1
  have z3 := heap_cell a5 0
  have z4 := heap_cell a5 1
  have z5 := heap_cell c5 0
  have z6 := heap_cell c5 1
  simp only [List.getElem?_toArray, List.getElem?_cons_zero, List.getElem?_cons_succ] at z1 z2 z3 z4 z5 z6
  go_wp2_with fail
  have bel := bW5
  go_ret
  exact ⟨rfl, bel⟩
set_option maxRecDepth 100000 in
set_option maxHeartbeats 4000000 in
theorem fracNear_q2_n2 (P Q most : Int) (hB : nearB P Q most = false) (hq1 : decide (Q < 1) = false) (hq2 : decide (1000000 < Q) = true) (n : Int) (hn1 : decide (n < 1) = false) (hn2 : decide (30 < n) = true) (w : World) :
    Calls Try.prog 3 #[.agg #[.int .i64 P, .int .i64 Q], .int .i64 most, .int .i64 n] w fun e w' => e = .returned (.bool true) ∧ Below w.heap.size w w' := by
  have CN := Lib.hid (fun X => frac_Near_bad P Q most X hB)
  unfold NearBad bad3 at CN
  clear hB
  have CF := Lib.hid (fun X => farey_bad n X _ rfl (.inr ⟨hn1, hn2⟩))
  obtain ⟨H, hH⟩ : ∃ H, w.heap.size = H := ⟨_, rfl⟩
  obtain ⟨W0, hW0⟩ : ∃ W0, w.alloc (.cells #[.int .i64 P, .int .i64 Q] 23) = W0 := ⟨_, rfl⟩
  have bW0 : Below w.heap.size w W0 := by rw [← hW0]; exact (Below.refl _ _).alloc (Nat.le_refl _) _
  have x0 : W0.heap[H]? = some (.cells #[.int .i64 P, .int .i64 Q] 23) := by rw [← hW0, ← hH]; exact heap_alloc_new w _
  have xc0 := heap_cell x0 0
  have xc1 := heap_cell x0 1
  simp only [List.getElem?_toArray, List.getElem?_cons_zero, List.getElem?_cons_succ] at xc0 xc1
  go_enter Try.func3, Try.ntmps3
  go_wp2_with fail
  (with_reducible refine (CN.out _).mono ?_)
  rintro e w1 ⟨rfl, b1⟩
  have x1 := heap_below x0 b1
  have bW1 : Below w.heap.size w w1 := bW0.trans (b1.mono bW0.size)
  go_wp2_with fail
  obtain ⟨W2, hW2⟩ : ∃ W2, (w1.alloc (.cells #[.int .i64 0, .int .i64 0] 23)).alloc (.cells #[.int .i64 0, .int .i64 0] 23) = W2 := ⟨_, rfl⟩
  have x2 : W2.heap[H]? = some (.cells #[.int .i64 P, .int .i64 Q] 23) := by rw [← hW2]; exact heap_alloc_old _ _ (heap_alloc_old _ _ x1)
  have a2 : W2.heap[w1.heap.size]? = some (.cells #[.int .i64 0, .int .i64 0] 23) := by rw [← hW2]; exact heap_alloc_old _ _ (heap_alloc_new _ _)
  have c2 : W2.heap[w1.heap.size + 1]? = some (.cells #[.int .i64 0, .int .i64 0] 23) := by rw [← hW2]; exact heap_new' _ _ _ (by simp)
  have bW2 : Below w.heap.size w W2 := by rw [← hW2]; exact (bW1.alloc bW1.size _).alloc (by simp; have := bW1.size; omega) _
  rw [hW2]
  clear b1 x1 bW1 hW2
  (with_reducible refine (CF.out _).mono ?_)
  rintro e w3 ⟨rfl, rfl⟩
  have x5 := x2
  have a5 := a2
  have c5 := c2
  have bW5 := bW2
  clear x2 a2 c2 bW2
  have z1 := heap_cell x5 0
  have z2 := heap_cell x5 1
  have z3 := heap_cell a5 0
  have z4 := heap_cell a5 1
  have z5 := heap_cell c5 0
  have z6 := heap_cell c5 1
  simp only [List.getElem?_toArray, List.getElem?_cons_zero, List.getElem?_cons_succ] at z1 z2 z3 z4 z5 z6
  go_wp2_with fail
  have bel := bW5
  go_ret
  exact ⟨rfl, bel⟩
set_option maxRecDepth 100000 in
set_option maxHeartbeats 4000000 in
theorem fracNear_p1_ok (P Q most : Int) (hB : nearB P Q most = false) (hq1 : decide (Q < 1) = false) (hq2 : decide (1000000 < Q) = false) (hp1 : decide (P < 0) = true) (N : Nat) (hN1 : 1 ≤ N) (hN : N ≤ 30) (w : World) :
    Calls Try.prog 3 #[.agg #[.int .i64 P, .int .i64 Q], .int .i64 most, .int .i64 (N : Int)] w fun e w' => e = .returned (.bool true) ∧ Below w.heap.size w w' := by
  have CN := Lib.hid (fun X => frac_Near_bad P Q most X hB)
  unfold NearBad bad3 at CN
  clear hB
  have n1 : decide ((N : Int) < 1) = false := by simp; omega
  have n2 : decide ((30 : Int) < N) = false := by simp; omega
  have CF := Lib.hid (fun X => frac_Farey N X hN1 hN)
  have CG := Lib.hid (fun X => ref_FareyOf N X hN1 hN)
  have hL1 : (srtQ (flQ N)).length = (flQ N).length := srtQ_len _
  have hL2 := flQ_len N hN
  have hL3 := flQ_pos N hN1
  have CE := Lib.hid (fun (ao bo : Option Addr) (ca cb : Nat) (X : World) => equal_fr (srtQ (flQ N)) (flQ N).length ao bo ca cb X hL1 (by omega))
  unfold FareyPost at CF
  unfold FareyOfPost at CG
  generalize (srtQ (flQ N)).flatMap encQ = LQ at CF CG CE
  obtain ⟨D, hD⟩ : ∃ D, (flQ N).length = D := ⟨_, rfl⟩
  rw [hD] at CF CG CE hL2 hL3
  clear hL1 hD
  obtain ⟨H, hH⟩ : ∃ H, w.heap.size = H := ⟨_, rfl⟩
  obtain ⟨W0, hW0⟩ : ∃ W0, w.alloc (.cells #[.int .i64 P, .int .i64 Q] 23) = W0 := ⟨_, rfl⟩
  have bW0 : Below w.heap.size w W0 := by rw [← hW0]; exact (Below.refl _ _).alloc (Nat.le_refl _) _
  have x0 : W0.heap[H]? = some (.cells #[.int .i64 P, .int .i64 Q] 23) := by rw [← hW0, ← hH]; exact heap_alloc_new w _
  have xc0 := heap_cell x0 0
  have xc1 := heap_cell x0 1
  simp only [List.getElem?_toArray, List.getElem?_cons_zero, List.getElem?_cons_succ] at xc0 xc1
  go_enter Try.func3, Try.ntmps3
  go_wp2_with fail
  (with_reducible refine (CN.out _).mono ?_)
  rintro e w1 ⟨rfl, b1⟩
  have x1 := heap_below x0 b1
  have bW1 : Below w.heap.size w w1 := bW0.trans (b1.mono bW0.size)
  go_wp2_with fail
  obtain ⟨W2, hW2⟩ : ∃ W2, (w1.alloc (.cells #[.int .i64 0, .int .i64 0] 23)).alloc (.cells #[.int .i64 0, .int .i64 0] 23) = W2 := ⟨_, rfl⟩
  have x2 : W2.heap[H]? = some (.cells #[.int .i64 P, .int .i64 Q] 23) := by rw [← hW2]; exact heap_alloc_old _ _ (heap_alloc_old _ _ x1)
  have a2 : W2.heap[w1.heap.size]? = some (.cells #[.int .i64 0, .int .i64 0] 23) := by rw [← hW2]; exact heap_alloc_old _ _ (heap_alloc_new _ _)
  have c2 : W2.heap[w1.heap.size + 1]? = some (.cells #[.int .i64 0, .int .i64 0] 23) := by rw [← hW2]; exact heap_new' _ _ _ (by simp)
  have bW2 : Below w.heap.size w W2 := by rw [← hW2]; exact (bW1.alloc bW1.size _).alloc (by simp; have := bW1.size; omega) _
  rw [hW2]
  clear b1 x1 bW1 hW2
  (with_reducible refine (CF.out _).mono ?_)
  rintro e w3 ⟨g3, rfl, hR3, b3⟩
  have HR3 := Lib.hid hR3
  clear hR3
  have x3 := heap_below x2 b3
  have a3 := heap_below a2 b3
  have c3 := heap_below c2 b3
  have bW3 : Below w.heap.size w w3 := bW2.trans (b3.mono bW2.size)
  clear b3 x2 a2 c2 bW2
  go_wp2_with fail
  (with_reducible refine (CG.out _).mono ?_)
  rintro e w4 ⟨g4, cap4, rfl, hR4, b4⟩
  have HR4 := Lib.hid hR4
  have HR5 := Lib.hid (HR3.out.below b4)
  clear hR4
  have x4 := heap_below x3 b4
  have a4 := heap_below a3 b4
  have c4 := heap_below c3 b4
  have bW4 : Below w.heap.size w w4 := bW3.trans (b4.mono bW3.size)
  clear b4 x3 a3 c3 bW3 HR3
  go_wp2_with fail
  (with_reducible refine (CE.out _ _ _ _ _ HR5 HR4).mono ?_)
  rintro e w5 ⟨rfl, b5⟩
  have x5 := heap_below x4 b5
  have a5 := heap_below a4 b5
  have c5 := heap_below c4 b5
  have bW5 : Below w.heap.size w w5 := bW4.trans (b5.mono bW4.size)
  clear b5 x4 a4 c4 bW4 HR4 HR5
  have z1 := heap_cell x5 0
  have z2 := heap_cell x5 1
  have z3 := heap_cell a5 0
  have z4 := heap_cell a5 1
  have z5 := heap_cell c5 0
  have z6 := heap_cell c5 1
  simp only [List.getElem?_toArray, List.getElem?_cons_zero, List.getElem?_cons_succ] at z1 z2 z3 z4 z5 z6
  go_wp2_with fail
  have bel := bW5
  go_ret
  exact ⟨rfl, bel⟩
set_option maxRecDepth 100000 in
set_option maxHeartbeats 4000000 in
theorem fracNear_p1_n1 (P Q most : Int) (hB : nearB P Q most = false) (hq1 : decide (Q < 1) = false) (hq2 : decide (1000000 < Q) = false) (hp1 : decide (P < 0) = true) (n : Int) (hn1 : decide (n < 1) = true) (w : World) :
    Calls Try.prog 3 #[.agg #[.int .i64 P, .int .i64 Q], .int .i64 most, .int .i64 n] w fun e w' => e = .returned (.bool true) ∧ Below w.heap.size w w' := by
  have CN := Lib.hid (fun X => frac_Near_bad P Q most X hB)
  unfold NearBad bad3 at CN
  clear hB
  have CF := Lib.hid (fun X => farey_bad n X _ rfl (.inl hn1))
  obtain ⟨H, hH⟩ : ∃ H, w.heap.size = H := ⟨_, rfl⟩
  obtain ⟨W0, hW0⟩ : ∃ W0, w.alloc (.cells #[.int .i64 P, .int .i64 Q] 23) = W0 := ⟨_, rfl⟩
  have bW0 : Below w.heap.size w W0 := by rw [← hW0]; exact (Below.refl _ _).alloc (Nat.le_refl _) _
  have x0 : W0.heap[H]? = some (.cells #[.int .i64 P, .int .i64 Q] 23) := by rw [← hW0, ← hH]; exact heap_alloc_new w _
  have xc0 := heap_cell x0 0
  have xc1 := heap_cell x0 1
  simp only [List.getElem?_toArray, List.getElem?_cons_zero, List.getElem?_cons_succ] at xc0 xc1
  go_enter Try.func3, Try.ntmps3
  go_wp2_with fail
  (with_reducible refine (CN.out _).mono ?_)
  rintro e w1 ⟨rfl, b1⟩
  have x1 := heap_below x0 b1
  have bW1 : Below w.heap.size w w1 := bW0.trans (b1.mono bW0.size)
  go_wp2_with fail
  obtain ⟨W2, hW2⟩ : ∃ W2, (w1.alloc (.cells #[.int .i64 0, .int .i64 0] 23)).alloc (.cells #[.int .i64 0, .int .i64 0] 23) = W2 := ⟨_, rfl⟩
  have x2 : W2.heap[H]? = some (.cells #[.int .i64 P, .int .i64 Q] 23) := by rw [← hW2]; exact heap_alloc_old _ _ (heap_alloc_old _ _ x1)
  have a2 : W2.heap[w1.heap.size]? = some (.cells #[.int .i64 0, .int .i64 0] 23) := by rw [← hW2]; exact heap_alloc_old _ _ (heap_alloc_new _ _)
  have c2 : W2.heap[w1.heap.size + 1]? = some (.cells #[.int .i64 0, .int .i64 0] 23) := by rw [← hW2]; exact heap_new' _ _ _ (by simp)
  have bW2 : Below w.heap.size w W2 := by rw [← hW2]; exact (bW1.alloc bW1.size _).alloc (by simp; have := bW1.size; omega) _
  rw [hW2]
  clear b1 x1 bW1 hW2
  (with_reducible refine (CF.out _).mono ?_)
  rintro e w3 ⟨rfl, rfl⟩
  have x5 := x2
  have a5 := a2
  have c5 := c2
  have bW5 := bW2
  clear x2 a2 c2 bW2
  have z1 := heap_cell x5 0
  have z2 := heap_cell x5 1
  have z3 := heap_cell a5 0
  have z4 := heap_cell a5 1
  have z5 := heap_cell c5 0
  have z6 := heap_cell c5 1
  simp only [List.getElem?_toArray, List.getElem?_cons_zero, List.getElem?_cons_succ] at z1 z2 z3 z4 z5 z6
  go_wp2_with fail
  have bel := bW5
  go_ret
  exact ⟨rfl, bel⟩
set_option maxRecDepth 100000 in
set_option maxHeartbeats 4000000 in
theorem fracNear_p1_n2 (P Q most : Int) (hB : nearB P Q most = false) (hq1 : decide (Q < 1) = false) (hq2 : decide (1000000 < Q) = false) (hp1 : decide (P < 0) = true) (n : Int) (hn1 : decide (n < 1) = false) (hn2 : decide (30 < n) = true) (w : World) :
    Calls Try.prog 3 #[.agg #[.int .i64 P, .int .i64 Q], .int .i64 most, .int .i64 n] w fun e w' => e = .returned (.bool true) ∧ Below w.heap.size w w' := by
  have CN := Lib.hid (fun X => frac_Near_bad P Q most X hB)
  unfold NearBad bad3 at CN
  clear hB
  have CF := Lib.hid (fun X => farey_bad n X _ rfl (.inr ⟨hn1, hn2⟩))
  obtain ⟨H, hH⟩ : ∃ H, w.heap.size = H := ⟨_, rfl⟩
  obtain ⟨W0, hW0⟩ : ∃ W0, w.alloc (.cells #[.int .i64 P, .int .i64 Q] 23) = W0 := ⟨_, rfl⟩
  have bW0 : Below w.heap.size w W0 := by rw [← hW0]; exact (Below.refl _ _).alloc (Nat.le_refl _) _
  have x0 : W0.heap[H]? = some (.cells #[.int .i64 P, .int .i64 Q] 23) := by rw [← hW0, ← hH]; exact heap_alloc_new w _
  have xc0 := heap_cell x0 0
  have xc1 := heap_cell x0 1
  simp only [List.getElem?_toArray, List.getElem?_cons_zero, List.getElem?_cons_succ] at xc0 xc1
  go_enter Try.func3, Try.ntmps3
  go_wp2_with fail
  (with_reducible refine (CN.out _).mono ?_)
  rintro e w1 ⟨rfl, b1⟩
  have x1 := heap_below x0 b1
  have bW1 : Below w.heap.size w w1 := bW0.trans (b1.mono bW0.size)
  go_wp2_with fail
  obtain ⟨W2, hW2⟩ : ∃ W2, (w1.alloc (.cells #[.int .i64 0, .int .i64 0] 23)).alloc (.cells #[.int .i64 0, .int .i64 0] 23) = W2 := ⟨_, rfl⟩
  have x2 : W2.heap[H]? = some (.cells #[.int .i64 P, .int .i64 Q] 23) := by rw [← hW2]; exact heap_alloc_old _ _ (heap_alloc_old _ _ x1)
  have a2 : W2.heap[w1.heap.size]? = some (.cells #[.int .i64 0, .int .i64 0] 23) := by rw [← hW2]; exact heap_alloc_old _ _ (heap_alloc_new _ _)
  have c2 : W2.heap[w1.heap.size + 1]? = some (.cells #[.int .i64 0, .int .i64 0] 23) := by rw [← hW2]; exact heap_new' _ _ _ (by simp)
  have bW2 : Below w.heap.size w W2 := by rw [← hW2]; exact (bW1.alloc bW1.size _).alloc (by simp; have := bW1.size; omega) _
  rw [hW2]
  clear b1 x1 bW1 hW2
  (with_reducible refine (CF.out _).mono ?_)
  rintro e w3 ⟨rfl, rfl⟩
  have x5 := x2
  have a5 := a2
  have c5 := c2
  have bW5 := bW2
  clear x2 a2 c2 bW2
  have z1 := heap_cell x5 0
  have z2 := heap_cell x5 1
  have z3 := heap_cell a5 0
  have z4 := heap_cell a5 1
  have z5 := heap_cell c5 0
  have z6 := heap_cell c5 1
  simp only [List.getElem?_toArray, List.getElem?_cons_zero, List.getElem?_cons_succ] at z1 z2 z3 z4 z5 z6
  go_wp2_with fail
  have bel := bW5
  go_ret
  exact ⟨rfl, bel⟩
set_option maxRecDepth 100000 in
set_option maxHeartbeats 4000000 in
theorem fracNear_p2_ok (P Q most : Int) (hB : nearB P Q most = false) (hq1 : decide (Q < 1) = false) (hq2 : decide (1000000 < Q) = false) (hp1 : decide (P < 0) = false) (hp2 : decide (1000000 < P) = true) (N : Nat) (hN1 : 1 ≤ N) (hN : N ≤ 30) (w : World) :
    Calls Try.prog 3 #[.agg #[.int .i64 P, .int .i64 Q], .int .i64 most, .int .i64 (N : Int)] w fun e w' => e = .returned (.bool true) ∧ Below w.heap.size w w' := by
  have CN := Lib.hid (fun X => frac_Near_bad P Q most X hB)
  unfold NearBad bad3 at CN
  clear hB
  have n1 : decide ((N : Int) < 1) = false := by simp; omega
  have n2 : decide ((30 : Int) < N) = false := by simp; omega
  have CF := Lib.hid (fun X => frac_Farey N X hN1 hN)
  have CG := Lib.hid (fun X => ref_FareyOf N X hN1 hN)
  have hL1 : (srtQ (flQ N)).length = (flQ N).length := srtQ_len _
  have hL2 := flQ_len N hN
  have hL3 := flQ_pos N hN1
  have CE := Lib.hid (fun (ao bo : Option Addr) (ca cb : Nat) (X : World) => equal_fr (srtQ (flQ N)) (flQ N).length ao bo ca cb X hL1 (by omega))
  unfold FareyPost at CF
  unfold FareyOfPost at CG
  generalize (srtQ (flQ N)).flatMap encQ = LQ at CF CG CE
  obtain ⟨D, hD⟩ : ∃ D, (flQ N).length = D := ⟨_, rfl⟩
  rw [hD] at CF CG CE hL2 hL3
  clear hL1 hD
  obtain ⟨H, hH⟩ : ∃ H, w.heap.size = H := ⟨_, rfl⟩
  obtain ⟨W0, hW0⟩ : ∃ W0, w.alloc (.cells #[.int .i64 P, .int .i64 Q] 23) = W0 := ⟨_, rfl⟩
  have bW0 : Below w.heap.size w W0 := by rw [← hW0]; exact (Below.refl _ _).alloc (Nat.le_refl _) _
  have x0 : W0.heap[H]? = some (.cells #[.int .i64 P, .int .i64 Q] 23) := by rw [← hW0, ← hH]; exact heap_alloc_new w _
  have xc0 := heap_cell x0 0
  have xc1 := heap_cell x0 1
  simp only [List.getElem?_toArray, List.getElem?_cons_zero, List.getElem?_cons_succ] at xc0 xc1
  go_enter Try.func3, Try.ntmps3
  go_wp2_with fail
  (with_reducible refine (CN.out _).mono ?_)
  rintro e w1 ⟨rfl, b1⟩
  have x1 := heap_below x0 b1
  have bW1 : Below w.heap.size w w1 := bW0.trans (b1.mono bW0.size)
  go_wp2_with fail
  obtain ⟨W2, hW2⟩ : ∃ W2, (w1.alloc (.cells #[.int .i64 0, .int .i64 0] 23)).alloc (.cells #[.int .i64 0, .int .i64 0] 23) = W2 := ⟨_, rfl⟩
  have x2 : W2.heap[H]? = some (.cells #[.int .i64 P, .int .i64 Q] 23) := by rw [← hW2]; exact heap_alloc_old _ _ (heap_alloc_old _ _ x1)
  have a2 : W2.heap[w1.heap.size]? = some (.cells #[.int .i64 0, .int .i64 0] 23) := by rw [← hW2]; exact heap_alloc_old _ _ (heap_alloc_new _ _)
  have c2 : W2.heap[w1.heap.size + 1]? = some (.cells #[.int .i64 0, .int .i64 0] 23) := by rw [← hW2]; exact heap_new' _ _ _ (by simp)
  have bW2 : Below w.heap.size w W2 := by rw [← hW2]; exact (bW1.alloc bW1.size _).alloc (by simp; have := bW1.size; omega) _
  rw [hW2]
  clear b1 x1 bW1 hW2
  (with_reducible refine (CF.out _).mono ?_)
  rintro e w3 ⟨g3, rfl, hR3, b3⟩
  have HR3 := Lib.hid hR3
  clear hR3
  have x3 := heap_below x2 b3
  have a3 := heap_below a2 b3
  have c3 := heap_below c2 b3
  have bW3 : Below w.heap.size w w3 := bW2.trans (b3.mono bW2.size)
  clear b3 x2 a2 c2 bW2
  go_wp2_with fail
  (with_reducible refine (CG.out _).mono ?_)
  rintro e w4 ⟨g4, cap4, rfl, hR4, b4⟩
  have HR4 := Lib.hid hR4
  have HR5 := Lib.hid (HR3.out.below b4)
  clear hR4
  have x4 := heap_below x3 b4
  have a4 := heap_below a3 b4
  have c4 := heap_below c3 b4
  have bW4 : Below w.heap.size w w4 := bW3.trans (b4.mono bW3.size)
  clear b4 x3 a3 c3 bW3 HR3
  go_wp2_with fail
  (with_reducible refine (CE.out _ _ _ _ _ HR5 HR4).mono ?_)
  rintro e w5 ⟨rfl, b5⟩
  have x5 := heap_below x4 b5
  have a5 := heap_below a4 b5
  have c5 := heap_below c4 b5
  have bW5 : Below w.heap.size w w5 := bW4.trans (b5.mono bW4.size)
  clear b5 x4 a4 c4 bW4 HR4 HR5
  have z1 := heap_cell x5 0
  have z2 := heap_cell x5 1
  have z3 := heap_cell a5 0
  have z4 := heap_cell a5 1
  have z5 := heap_cell c5 0
  have z6 := heap_cell c5 1
  simp only [List.getElem?_toArray, List.getElem?_cons_zero, List.getElem?_cons_succ] at z1 z2 z3 z4 z5 z6
  go_wp2_with fail
  have bel := bW5
  go_ret
  exact ⟨rfl, bel⟩
set_option maxRecDepth 100000 in
set_option maxHeartbeats 4000000 in
theorem fracNear_p2_n1 (P Q most : Int) (hB : nearB P Q most = false) (hq1 : decide (Q < 1) = false) (hq2 : decide (1000000 < Q) = false) (hp1 : decide (P < 0) = false) (hp2 : decide (1000000 < P) = true) (n : Int) (hn1 : decide (n < 1) = true) (w : World) :
    Calls Try.prog 3 #[.agg #[.int .i64 P, .int .i64 Q], .int .i64 most, .int .i64 n] w fun e w' => e = .returned (.bool true) ∧ Below w.heap.size w w' := by
  have CN := Lib.hid (fun X => frac_Near_bad P Q most X hB)
  unfold NearBad bad3 at CN
  clear hB
  have CF := Lib.hid (fun X => farey_bad n X _ rfl (.inl hn1))
  obtain ⟨H, hH⟩ : ∃ H, w.heap.size = H := ⟨_, rfl⟩
  obtain ⟨W0, hW0⟩ : ∃ W0, w.alloc (.cells #[.int .i64 P, .int .i64 Q] 23) = W0 := ⟨_, rfl⟩
  have bW0 : Below w.heap.size w W0 := by rw [← hW0]; exact (Below.refl _ _).alloc (Nat.le_refl _) _
  have x0 : W0.heap[H]? = some (.cells #[.int .i64 P, .int .i64 Q] 23) := by rw [← hW0, ← hH]; exact heap_alloc_new w _
  have xc0 := heap_cell x0 0
  have xc1 := heap_cell x0 1
  simp only [List.getElem?_toArray, List.getElem?_cons_zero, List.getElem?_cons_succ] at xc0 xc1
  go_enter Try.func3, Try.ntmps3
  go_wp2_with fail
  (with_reducible refine (CN.out _).mono ?_)
  rintro e w1 ⟨rfl, b1⟩
  have x1 := heap_below x0 b1
  have bW1 : Below w.heap.size w w1 := bW0.trans (b1.mono bW0.size)
  go_wp2_with fail
  obtain ⟨W2, hW2⟩ : ∃ W2, (w1.alloc (.cells #[.int .i64 0, .int .i64 0] 23)).alloc (.cells #[.int .i64 0, .int .i64 0] 23) = W2 := ⟨_, rfl⟩
  have x2 : W2.heap[H]? = some (.cells #[.int .i64 P, .int .i64 Q] 23) := by rw [← hW2]; exact heap_alloc_old _ _ (heap_alloc_old _ _ x1)
  have a2 : W2.heap[w1.heap.size]? = some (.cells #[.int .i64 0, .int .i64 0] 23) := by rw [← hW2]; exact heap_alloc_old _ _ (heap_alloc_new _ _)
  have c2 : W2.heap[w1.heap.size + 1]? = some (.cells #[.int .i64 0, .int .i64 0] 23) := by rw [← hW2]; exact heap_new' _ _ _ (by simp)
  have bW2 : Below w.heap.size w W2 := by rw [← hW2]; exact (bW1.alloc bW1.size _).alloc (by simp; have := bW1.size; omega) _
  rw [hW2]
  clear b1 x1 bW1 hW2
  (with_reducible refine (CF.out _).mono ?_)
  rintro e w3 ⟨rfl, rfl⟩
  have x5 := x2
  have a5 := a2
  have c5 := c2
  have bW5 := bW2
  clear x2 a2 c2 bW2
  have z1 := heap_cell x5 0
  have z2 := heap_cell x5 1
  have z3 := heap_cell a5 0
  have z4 := heap_cell a5 1
  have z5 := heap_cell c5 0
  have z6 := heap_cell c5 1
  simp only [List.getElem?_toArray, List.getElem?_cons_zero, List.getElem?_cons_succ] at z1 z2 z3 z4 z5 z6
  go_wp2_with fail
  have bel := bW5
  go_ret
  exact ⟨rfl, bel⟩
set_option maxRecDepth 100000 in
set_option maxHeartbeats 4000000 in
theorem fracNear_p2_n2 (P Q most : Int) (hB : nearB P Q most = false) (hq1 : decide (Q < 1) = false) (hq2 : decide (1000000 < Q) = false) (hp1 : decide (P < 0) = false) (hp2 : decide (1000000 < P) = true) (n : Int) (hn1 : decide (n < 1) = false) (hn2 : decide (30 < n) = true) (w : World) :
    Calls Try.prog 3 #[.agg #[.int .i64 P, .int .i64 Q], .int .i64 most, .int .i64 n] w fun e w' => e = .returned (.bool true) ∧ Below w.heap.size w w' := by
  have CN := Lib.hid (fun X => frac_Near_bad P Q most X hB)
  unfold NearBad bad3 at CN
  clear hB
  have CF := Lib.hid (fun X => farey_bad n X _ rfl (.inr ⟨hn1, hn2⟩))
  obtain ⟨H, hH⟩ : ∃ H, w.heap.size = H := ⟨_, rfl⟩
  obtain ⟨W0, hW0⟩ : ∃ W0, w.alloc (.cells #[.int .i64 P, .int .i64 Q] 23) = W0 := ⟨_, rfl⟩
  have bW0 : Below w.heap.size w W0 := by rw [← hW0]; exact (Below.refl _ _).alloc (Nat.le_refl _) _
  have x0 : W0.heap[H]? = some (.cells #[.int .i64 P, .int .i64 Q] 23) := by rw [← hW0, ← hH]; exact heap_alloc_new w _
  have xc0 := heap_cell x0 0
  have xc1 := heap_cell x0 1
  simp only [List.getElem?_toArray, List.getElem?_cons_zero, List.getElem?_cons_succ] at xc0 xc1
  go_enter Try.func3, Try.ntmps3
  go_wp2_with fail
  (with_reducible refine (CN.out _).mono ?_)
  rintro e w1 ⟨rfl, b1⟩
  have x1 := heap_below x0 b1
  have bW1 : Below w.heap.size w w1 := bW0.trans (b1.mono bW0.size)
  go_wp2_with fail
  obtain ⟨W2, hW2⟩ : ∃ W2, (w1.alloc (.cells #[.int .i64 0, .int .i64 0] 23)).alloc (.cells #[.int .i64 0, .int .i64 0] 23) = W2 := ⟨_, rfl⟩
  have x2 : W2.heap[H]? = some (.cells #[.int .i64 P, .int .i64 Q] 23) := by rw [← hW2]; exact heap_alloc_old _ _ (heap_alloc_old _ _ x1)
  have a2 : W2.heap[w1.heap.size]? = some (.cells #[.int .i64 0, .int .i64 0] 23) := by rw [← hW2]; exact heap_alloc_old _ _ (heap_alloc_new _ _)
  have c2 : W2.heap[w1.heap.size + 1]? = some (.cells #[.int .i64 0, .int .i64 0] 23) := by rw [← hW2]; exact heap_new' _ _ _ (by simp)
  have bW2 : Below w.heap.size w W2 := by rw [← hW2]; exact (bW1.alloc bW1.size _).alloc (by simp; have := bW1.size; omega) _
  rw [hW2]
  clear b1 x1 bW1 hW2
  (with_reducible refine (CF.out _).mono ?_)
  rintro e w3 ⟨rfl, rfl⟩
  have x5 := x2
  have a5 := a2
  have c5 := c2
  have bW5 := bW2
  clear x2 a2 c2 bW2
  have z1 := heap_cell x5 0
  have z2 := heap_cell x5 1
  have z3 := heap_cell a5 0
  have z4 := heap_cell a5 1
  have z5 := heap_cell c5 0
  have z6 := heap_cell c5 1
  simp only [List.getElem?_toArray, List.getElem?_cons_zero, List.getElem?_cons_succ] at z1 z2 z3 z4 z5 z6
  go_wp2_with fail
  have bel := bW5
  go_ret
  exact ⟨rfl, bel⟩
set_option maxRecDepth 100000 in
set_option maxHeartbeats 4000000 in
theorem fracNear_m1_ok (P Q most : Int) (hB : nearB P Q most = false) (hq1 : decide (Q < 1) = false) (hq2 : decide (1000000 < Q) = false) (hp1 : decide (P < 0) = false) (hp2 : decide (1000000 < P) = false) (hm1 : decide (most < 1) = true) (N : Nat) (hN1 : 1 ≤ N) (hN : N ≤ 30) (w : World) :
    Calls Try.prog 3 #[.agg #[.int .i64 P, .int .i64 Q], .int .i64 most, .int .i64 (N : Int)] w fun e w' => e = .returned (.bool true) ∧ Below w.heap.size w w' := by
  have CN := Lib.hid (fun X => frac_Near_bad P Q most X hB)
  unfold NearBad bad3 at CN
  clear hB
  have n1 : decide ((N : Int) < 1) = false := by simp; omega
  have n2 : decide ((30 : Int) < N) = false := by simp; omega
  have CF := Lib.hid (fun X => frac_Farey N X hN1 hN)
  have CG := Lib.hid (fun X => ref_FareyOf N X hN1 hN)
  have hL1 : (srtQ (flQ N)).length = (flQ N).length := srtQ_len _
  have hL2 := flQ_len N hN
  have hL3 := flQ_pos N hN1
  have CE := Lib.hid (fun (ao bo : Option Addr) (ca cb : Nat) (X : World) => equal_fr (srtQ (flQ N)) (flQ N).length ao bo ca cb X hL1 (by omega))
  unfold FareyPost at CF
  unfold FareyOfPost at CG
  generalize (srtQ (flQ N)).flatMap encQ = LQ at CF CG CE
  obtain ⟨D, hD⟩ : ∃ D, (flQ N).length = D := ⟨_, rfl⟩
  rw [hD] at CF CG CE hL2 hL3
  clear hL1 hD
  obtain ⟨H, hH⟩ : ∃ H, w.heap.size = H := ⟨_, rfl⟩
  obtain ⟨W0, hW0⟩ : ∃ W0, w.alloc (.cells #[.int .i64 P, .int .i64 Q] 23) = W0 := ⟨_, rfl⟩
  have bW0 : Below w.heap.size w W0 := by rw [← hW0]; exact (Below.refl _ _).alloc (Nat.le_refl _) _
  have x0 : W0.heap[H]? = some (.cells #[.int .i64 P, .int .i64 Q] 23) := by rw [← hW0, ← hH]; exact heap_alloc_new w _
  have xc0 := heap_cell x0 0
  have xc1 := heap_cell x0 1
  simp only [List.getElem?_toArray, List.getElem?_cons_zero, List.getElem?_cons_succ] at xc0 xc1
  go_enter Try.func3, Try.ntmps3
  go_wp2_with fail
  (with_reducible refine (CN.out _).mono ?_)
  rintro e w1 ⟨rfl, b1⟩
  have x1 := heap_below x0 b1
  have bW1 : Below w.heap.size w w1 := bW0.trans (b1.mono bW0.size)
  go_wp2_with fail
  obtain ⟨W2, hW2⟩ : ∃ W2, (w1.alloc (.cells #[.int .i64 0, .int .i64 0] 23)).alloc (.cells #[.int .i64 0, .int .i64 0] 23) = W2 := ⟨_, rfl⟩
  have x2 : W2.heap[H]? = some (.cells #[.int .i64 P, .int .i64 Q] 23) := by rw [← hW2]; exact heap_alloc_old _ _ (heap_alloc_old _ _ x1)
  have a2 : W2.heap[w1.heap.size]? = some (.cells #[.int .i64 0, .int .i64 0] 23) := by rw [← hW2]; exact heap_alloc_old _ _ (heap_alloc_new _ _)
  have c2 : W2.heap[w1.heap.size + 1]? = some (.cells #[.int .i64 0, .int .i64 0] 23) := by rw [← hW2]; exact heap_new' _ _ _ (by simp)
  have bW2 : Below w.heap.size w W2 := by rw [← hW2]; exact (bW1.alloc bW1.size _).alloc (by simp; have := bW1.size; omega) _
  rw [hW2]
  clear b1 x1 bW1 hW2
  (with_reducible refine (CF.out _).mono ?_)
  rintro e w3 ⟨g3, rfl, hR3, b3⟩
  have HR3 := Lib.hid hR3
  clear hR3
  have x3 := heap_below x2 b3
  have a3 := heap_below a2 b3
  have c3 := heap_below c2 b3
  have bW3 : Below w.heap.size w w3 := bW2.trans (b3.mono bW2.size)
  clear b3 x2 a2 c2 bW2
  go_wp2_with fail
  (with_reducible refine (CG.out _).mono ?_)
  rintro e w4 ⟨g4, cap4, rfl, hR4, b4⟩
  have HR4 := Lib.hid hR4
  have HR5 := Lib.hid (HR3.out.below b4)
  clear hR4
  have x4 := heap_below x3 b4
  have a4 := heap_below a3 b4
  have c4 := heap_below c3 b4
  have bW4 : Below w.heap.size w w4 := bW3.trans (b4.mono bW3.size)
  clear b4 x3 a3 c3 bW3 HR3
  go_wp2_with fail
  (with_reducible refine (CE.out _ _ _ _ _ HR5 HR4).mono ?_)
  rintro e w5 ⟨rfl, b5⟩
  have x5 := heap_below x4 b5
  have a5 := heap_below a4 b5
  have c5 := heap_below c4 b5
  have bW5 : Below w.heap.size w w5 := bW4.trans (b5.mono bW4.size)
  clear b5 x4 a4 c4 bW4 HR4 HR5
  have z1 := heap_cell x5 0
  have z2 := heap_cell x5 1
  have z3 := heap_cell a5 0
  have z4 := heap_cell a5 1
  have z5 := heap_cell c5 0
  have z6 := heap_cell c5 1
  simp only [List.getElem?_toArray, List.getElem?_cons_zero, List.getElem?_cons_succ] at z1 z2 z3 z4 z5 z6
  go_wp2_with fail
  have bel := bW5
  go_ret
  exact ⟨rfl, bel⟩
set_option maxRecDepth 100000 in
set_option maxHeartbeats 4000000 in
theorem fracNear_m1_n1 (P Q most : Int) (hB : nearB P Q most = false) (hq1 : decide (Q < 1) = false) (hq2 : decide (1000000 < Q) = false) (hp1 : decide (P < 0) = false) (hp2 : decide (1000000 < P) = false) (hm1 : decide (most < 1) = true) (n : Int) (hn1 : decide (n < 1) = true) (w : World) :
    Calls Try.prog 3 #[.agg #[.int .i64 P, .int .i64 Q], .int .i64 most, .int .i64 n] w fun e w' => e = .returned (.bool true) ∧ Below w.heap.size w w' := by
  have CN := Lib.hid (fun X => frac_Near_bad P Q most X hB)
  unfold NearBad bad3 at CN
  clear hB
  have CF := Lib.hid (fun X => farey_bad n X _ rfl (.inl hn1))
  obtain ⟨H, hH⟩ : ∃ H, w.heap.size = H := ⟨_, rfl⟩
  obtain ⟨W0, hW0⟩ : ∃ W0, w.alloc (.cells #[.int .i64 P, .int .i64 Q] 23) = W0 := ⟨_, rfl⟩
  have bW0 : Below w.heap.size w W0 := by rw [← hW0]; exact (Below.refl _ _).alloc (Nat.le_refl _) _
  have x0 : W0.heap[H]? = some (.cells #[.int .i64 P, .int .i64 Q] 23) := by rw [← hW0, ← hH]; exact heap_alloc_new w _
  have xc0 := heap_cell x0 0
  have xc1 := heap_cell x0 1
  simp only [List.getElem?_toArray, List.getElem?_cons_zero, List.getElem?_cons_succ] at xc0 xc1
  go_enter Try.func3, Try.ntmps3
  go_wp2_with fail
  (with_reducible refine (CN.out _).mono ?_)
  rintro e w1 ⟨rfl, b1⟩
  have x1 := heap_below x0 b1
  have bW1 : Below w.heap.size w w1 := bW0.trans (b1.mono bW0.size)
  go_wp2_with fail
  obtain ⟨W2, hW2⟩ : ∃ W2, (w1.alloc (.cells #[.int .i64 0, .int .i64 0] 23)).alloc (.cells #[.int .i64 0, .int .i64 0] 23) = W2 := ⟨_, rfl⟩
  have x2 : W2.heap[H]? = some (.cells #[.int .i64 P, .int .i64 Q] 23) := by rw [← hW2]; exact heap_alloc_old _ _ (heap_alloc_old _ _ x1)
  have a2 : W2.heap[w1.heap.size]? = some (.cells #[.int .i64 0, .int .i64 0] 23) := by rw [← hW2]; exact heap_alloc_old _ _ (heap_alloc_new _ _)
  have c2 : W2.heap[w1.heap.size + 1]? = some (.cells #[.int .i64 0, .int .i64 0] 23) := by rw [← hW2]; exact heap_new' _ _ _ (by simp)
  have bW2 : Below w.heap.size w W2 := by rw [← hW2]; exact (bW1.alloc bW1.size _).alloc (by simp; have := bW1.size; omega) _
  rw [hW2]
  clear b1 x1 bW1 hW2
  (with_reducible refine (CF.out _).mono ?_)
  rintro e w3 ⟨rfl, rfl⟩
  have x5 := x2
  have a5 := a2
  have c5 := c2
  have bW5 := bW2
  clear x2 a2 c2 bW2
  have z1 := heap_cell x5 0
  have z2 := heap_cell x5 1
  have z3 := heap_cell a5 0
  have z4 := heap_cell a5 1
  have z5 := heap_cell c5 0
  have z6 := heap_cell c5 1
  simp only [List.getElem?_toArray, List.getElem?_cons_zero, List.getElem?_cons_succ] at z1 z2 z3 z4 z5 z6
  go_wp2_with fail
  have bel := bW5
  go_ret
  exact ⟨rfl, bel⟩
set_option maxRecDepth 100000 in
set_option maxHeartbeats 4000000 in
theorem fracNear_m1_n2 (P Q most : Int) (hB : nearB P Q most = false) (hq1 : decide (Q < 1) = false) (hq2 : decide (1000000 < Q) = false) (hp1 : decide (P < 0) = false) (hp2 : decide (1000000 < P) = false) (hm1 : decide (most < 1) = true) (n : Int) (hn1 : decide (n < 1) = false) (hn2 : decide (30 < n) = true) (w : World) :
    Calls Try.prog 3 #[.agg #[.int .i64 P, .int .i64 Q], .int .i64 most, .int .i64 n] w fun e w' => e = .returned (.bool true) ∧ Below w.heap.size w w' := by
  have CN := Lib.hid (fun X => frac_Near_bad P Q most X hB)
  unfold NearBad bad3 at CN
  clear hB
  have CF := Lib.hid (fun X => farey_bad n X _ rfl (.inr ⟨hn1, hn2⟩))
  obtain ⟨H, hH⟩ : ∃ H, w.heap.size = H := ⟨_, rfl⟩
  obtain ⟨W0, hW0⟩ : ∃ W0, w.alloc (.cells #[.int .i64 P, .int .i64 Q] 23) = W0 := ⟨_, rfl⟩
  have bW0 : Below w.heap.size w W0 := by rw [← hW0]; exact (Below.refl _ _).alloc (Nat.le_refl _) _
  have x0 : W0.heap[H]? = some (.cells #[.int .i64 P, .int .i64 Q] 23) := by rw [← hW0, ← hH]; exact heap_alloc_new w _
  have xc0 := heap_cell x0 0
  have xc1 := heap_cell x0 1
  simp only [List.getElem?_toArray, List.getElem?_cons_zero, List.getElem?_cons_succ] at xc0 xc1
  go_enter Try.func3, Try.ntmps3
  go_wp2_with fail
  (with_reducible refine (CN.out _).mono ?_)
  rintro e w1 ⟨rfl, b1⟩
  have x1 := heap_below x0 b1
  have bW1 : Below w.heap.size w w1 := bW0.trans (b1.mono bW0.size)
  go_wp2_with fail
  obtain ⟨W2, hW2⟩ : ∃ W2, (w1.alloc (.cells #[.int .i64 0, .int .i64 0] 23)).alloc (.cells #[.int .i64 0, .int .i64 0] 23) = W2 := ⟨_, rfl⟩
  have x2 : W2.heap[H]? = some (.cells #[.int .i64 P, .int .i64 Q] 23) := by rw [← hW2]; exact heap_alloc_old _ _ (heap_alloc_old _ _ x1)
  have a2 : W2.heap[w1.heap.size]? = some (.cells #[.int .i64 0, .int .i64 0] 23) := by rw [← hW2]; exact heap_alloc_old _ _ (heap_alloc_new _ _)
  have c2 : W2.heap[w1.heap.size + 1]? = some (.cells #[.int .i64 0, .int .i64 0] 23) := by rw [← hW2]; exact heap_new' _ _ _ (by simp)
  have bW2 : Below w.heap.size w W2 := by rw [← hW2]; exact (bW1.alloc bW1.size _).alloc (by simp; have := bW1.size; omega) _
  rw [hW2]
  clear b1 x1 bW1 hW2
  (with_reducible refine (CF.out _).mono ?_)
  rintro e w3 ⟨rfl, rfl⟩
  have x5 := x2
  have a5 := a2
  have c5 := c2
  have bW5 := bW2
  clear x2 a2 c2 bW2
  have z1 := heap_cell x5 0
  have z2 := heap_cell x5 1
  have z3 := heap_cell a5 0
  have z4 := heap_cell a5 1
  have z5 := heap_cell c5 0
  have z6 := heap_cell c5 1
  simp only [List.getElem?_toArray, List.getElem?_cons_zero, List.getElem?_cons_succ] at z1 z2 z3 z4 z5 z6
  go_wp2_with fail
  have bel := bW5
  go_ret
  exact ⟨rfl, bel⟩
set_option maxRecDepth 100000 in
set_option maxHeartbeats 4000000 in
theorem fracNear_m2_ok (P Q most : Int) (hB : nearB P Q most = false) (hq1 : decide (Q < 1) = false) (hq2 : decide (1000000 < Q) = false) (hp1 : decide (P < 0) = false) (hp2 : decide (1000000 < P) = false) (hm1 : decide (most < 1) = false) (hm2 : decide (1000000 < most) = true) (N : Nat) (hN1 : 1 ≤ N) (hN : N ≤ 30) (w : World) :
    Calls Try.prog 3 #[.agg #[.int .i64 P, .int .i64 Q], .int .i64 most, .int .i64 (N : Int)] w fun e w' => e = .returned (.bool true) ∧ Below w.heap.size w w' := by
  have CN := Lib.hid (fun X => frac_Near_bad P Q most X hB)
  unfold NearBad bad3 at CN
  clear hB
  have n1 : decide ((N : Int) < 1) = false := by simp; omega
  have n2 : decide ((30 : Int) < N) = false := by simp; omega
  have CF := Lib.hid (fun X => frac_Farey N X hN1 hN)
  have CG := Lib.hid (fun X => ref_FareyOf N X hN1 hN)
  have hL1 : (srtQ (flQ N)).length = (flQ N).length := srtQ_len _
  have hL2 := flQ_len N hN
  have hL3 := flQ_pos N hN1
  have CE := Lib.hid (fun (ao bo : Option Addr) (ca cb : Nat) (X : World) => equal_fr (srtQ (flQ N)) (flQ N).length ao bo ca cb X hL1 (by omega))
  unfold FareyPost at CF
  unfold FareyOfPost at CG
  generalize (srtQ (flQ N)).flatMap encQ = LQ at CF CG CE
  obtain ⟨D, hD⟩ : ∃ D, (flQ N).length = D := ⟨_, rfl⟩
  rw [hD] at CF CG CE hL2 hL3
  clear hL1 hD
  obtain ⟨H, hH⟩ : ∃ H, w.heap.size = H := ⟨_, rfl⟩
  obtain ⟨W0, hW0⟩ : ∃ W0, w.alloc (.cells #[.int .i64 P, .int .i64 Q] 23) = W0 := ⟨_, rfl⟩
  have bW0 : Below w.heap.size w W0 := by rw [← hW0]; exact (Below.refl _ _).alloc (Nat.le_refl _) _
  have x0 : W0.heap[H]? = some (.cells #[.int .i64 P, .int .i64 Q] 23) := by rw [← hW0, ← hH]; exact heap_alloc_new w _
  have xc0 := heap_cell x0 0
  have xc1 := heap_cell x0 1
  simp only [List.getElem?_toArray, List.getElem?_cons_zero, List.getElem?_cons_succ] at xc0 xc1
  go_enter Try.func3, Try.ntmps3
  go_wp2_with fail
  (with_reducible refine (CN.out _).mono ?_)
  rintro e w1 ⟨rfl, b1⟩
  have x1 := heap_below x0 b1
  have bW1 : Below w.heap.size w w1 := bW0.trans (b1.mono bW0.size)
  go_wp2_with fail
  obtain ⟨W2, hW2⟩ : ∃ W2, (w1.alloc (.cells #[.int .i64 0, .int .i64 0] 23)).alloc (.cells #[.int .i64 0, .int .i64 0] 23) = W2 := ⟨_, rfl⟩
  have x2 : W2.heap[H]? = some (.cells #[.int .i64 P, .int .i64 Q] 23) := by rw [← hW2]; exact heap_alloc_old _ _ (heap_alloc_old _ _ x1)
  have a2 : W2.heap[w1.heap.size]? = some (.cells #[.int .i64 0, .int .i64 0] 23) := by rw [← hW2]; exact heap_alloc_old _ _ (heap_alloc_new _ _)
  have c2 : W2.heap[w1.heap.size + 1]? = some (.cells #[.int .i64 0, .int .i64 0] 23) := by rw [← hW2]; exact heap_new' _ _ _ (by simp)
  have bW2 : Below w.heap.size w W2 := by rw [← hW2]; exact (bW1.alloc bW1.size _).alloc (by simp; have := bW1.size; omega) _
  rw [hW2]
  clear b1 x1 bW1 hW2
  (with_reducible refine (CF.out _).mono ?_)
  rintro e w3 ⟨g3, rfl, hR3, b3⟩
  have HR3 := Lib.hid hR3
  clear hR3
  have x3 := heap_below x2 b3
  have a3 := heap_below a2 b3
  have c3 := heap_below c2 b3
  have bW3 : Below w.heap.size w w3 := bW2.trans (b3.mono bW2.size)
  clear b3 x2 a2 c2 bW2
  go_wp2_with fail
  (with_reducible refine (CG.out _).mono ?_)
  rintro e w4 ⟨g4, cap4, rfl, hR4, b4⟩
  have HR4 := Lib.hid hR4
  have HR5 := Lib.hid (HR3.out.below b4)
  clear hR4
  have x4 := heap_below x3 b4
  have a4 := heap_below a3 b4
  have c4 := heap_below c3 b4
  have bW4 : Below w.heap.size w w4 := bW3.trans (b4.mono bW3.size)
  clear b4 x3 a3 c3 bW3 HR3
  go_wp2_with fail
  (with_reducible refine (CE.out _ _ _ _ _ HR5 HR4).mono ?_)
  rintro e w5 ⟨rfl, b5⟩
  have x5 := heap_below x4 b5
  have a5 := heap_below a4 b5
  have c5 := heap_below c4 b5
  have bW5 : Below w.heap.size w w5 := bW4.trans (b5.mono bW4.size)
  clear b5 x4 a4 c4 bW4 HR4 HR5
  have z1 := heap_cell x5 0
  have z2 := heap_cell x5 1
  have z3 := heap_cell a5 0
  have z4 := heap_cell a5 1
  have z5 := heap_cell c5 0
  have z6 := heap_cell c5 1
  simp only [List.getElem?_toArray, List.getElem?_cons_zero, List.getElem?_cons_succ] at z1 z2 z3 z4 z5 z6
  go_wp2_with fail
  have bel := bW5
  go_ret
  exact ⟨rfl, bel⟩
set_option maxRecDepth 100000 in
set_option maxHeartbeats 4000000 in
theorem fracNear_m2_n1 (P Q most : Int) (hB : nearB P Q most = false) (hq1 : decide (Q < 1) = false) (hq2 : decide (1000000 < Q) = false) (hp1 : decide (P < 0) = false) (hp2 : decide (1000000 < P) = false) (hm1 : decide (most < 1) = false) (hm2 : decide (1000000 < most) = true) (n : Int) (hn1 : decide (n < 1) = true) (w : World) :
    Calls Try.prog 3 #[.agg #[.int .i64 P, .int .i64 Q], .int .i64 most, .int .i64 n] w fun e w' => e = .returned (.bool true) ∧ Below w.heap.size w w' := by
  have CN := Lib.hid (fun X => frac_Near_bad P Q most X hB)
  unfold NearBad bad3 at CN
  clear hB
  have CF := Lib.hid (fun X => farey_bad n X _ rfl (.inl hn1))
  obtain ⟨H, hH⟩ : ∃ H, w.heap.size = H := ⟨_, rfl⟩
  obtain ⟨W0, hW0⟩ : ∃ W0, w.alloc (.cells #[.int .i64 P, .int .i64 Q] 23) = W0 := ⟨_, rfl⟩
  have bW0 : Below w.heap.size w W0 := by rw [← hW0]; exact (Below.refl _ _).alloc (Nat.le_refl _) _
  have x0 : W0.heap[H]? = some (.cells #[.int .i64 P, .int .i64 Q] 23) := by rw [← hW0, ← hH]; exact heap_alloc_new w _
  have xc0 := heap_cell x0 0
  have xc1 := heap_cell x0 1
  simp only [List.getElem?_toArray, List.getElem?_cons_zero, List.getElem?_cons_succ] at xc0 xc1
  go_enter Try.func3, Try.ntmps3
  go_wp2_with fail
  (with_reducible refine (CN.out _).mono ?_)
  rintro e w1 ⟨rfl, b1⟩
  have x1 := heap_below x0 b1
  have bW1 : Below w.heap.size w w1 := bW0.trans (b1.mono bW0.size)
  go_wp2_with fail
  obtain ⟨W2, hW2⟩ : ∃ W2, (w1.alloc (.cells #[.int .i64 0, .int .i64 0] 23)).alloc (.cells #[.int .i64 0, .int .i64 0] 23) = W2 := ⟨_, rfl⟩
  have x2 : W2.heap[H]? = some (.cells #[.int .i64 P, .int .i64 Q] 23) := by rw [← hW2]; exact heap_alloc_old _ _ (heap_alloc_old _ _ x1)
  have a2 : W2.heap[w1.heap.size]? = some (.cells #[.int .i64 0, .int .i64 0] 23) := by rw [← hW2]; exact heap_alloc_old _ _ (heap_alloc_new _ _)
  have c2 : W2.heap[w1.heap.size + 1]? = some (.cells #[.int .i64 0, .int .i64 0] 23) := by rw [← hW2]; exact heap_new' _ _ _ (by simp)
  have bW2 : Below w.heap.size w W2 := by rw [← hW2]; exact (bW1.alloc bW1.size _).alloc (by simp; have := bW1.size; omega) _
  rw [hW2]
  clear b1 x1 bW1 hW2
  (with_reducible refine (CF.out _).mono ?_)
  rintro e w3 ⟨rfl, rfl⟩
  have x5 := x2
  have a5 := a2
  have c5 := c2
  have bW5 := bW2
  clear x2 a2 c2 bW2
  have z1 := heap_cell x5 0
  have z2 := heap_cell x5 1
  have z3 := heap_cell a5 0
  have z4 := heap_cell a5 1
  have z5 := heap_cell c5 0
  have z6 := heap_cell c5 1
  simp only [List.getElem?_toArray, List.getElem?_cons_zero, List.getElem?_cons_succ] at z1 z2 z3 z4 z5 z6
  go_wp2_with fail
  have bel := bW5
  go_ret
  exact ⟨rfl, bel⟩
set_option maxRecDepth 100000 in
set_option maxHeartbeats 4000000 in
theorem fracNear_m2_n2 (P Q most : Int) (hB : nearB P Q most = false) (hq1 : decide (Q < 1) = false) (hq2 : decide (1000000 < Q) = false) (hp1 : decide (P < 0) = false) (hp2 : decide (1000000 < P) = false) (hm1 : decide (most < 1) = false) (hm2 : decide (1000000 < most) = true) (n : Int) (hn1 : decide (n < 1) = false) (hn2 : decide (30 < n) = true) (w : World) :
    Calls Try.prog 3 #[.agg #[.int .i64 P, .int .i64 Q], .int .i64 most, .int .i64 n] w fun e w' => e = .returned (.bool true) ∧ Below w.heap.size w w' := by
  have CN := Lib.hid (fun X => frac_Near_bad P Q most X hB)
  unfold NearBad bad3 at CN
  clear hB
  have CF := Lib.hid (fun X => farey_bad n X _ rfl (.inr ⟨hn1, hn2⟩))
  obtain ⟨H, hH⟩ : ∃ H, w.heap.size = H := ⟨_, rfl⟩
  obtain ⟨W0, hW0⟩ : ∃ W0, w.alloc (.cells #[.int .i64 P, .int .i64 Q] 23) = W0 := ⟨_, rfl⟩
  have bW0 : Below w.heap.size w W0 := by rw [← hW0]; exact (Below.refl _ _).alloc (Nat.le_refl _) _
  have x0 : W0.heap[H]? = some (.cells #[.int .i64 P, .int .i64 Q] 23) := by rw [← hW0, ← hH]; exact heap_alloc_new w _
  have xc0 := heap_cell x0 0
  have xc1 := heap_cell x0 1
  simp only [List.getElem?_toArray, List.getElem?_cons_zero, List.getElem?_cons_succ] at xc0 xc1
  go_enter Try.func3, Try.ntmps3
  go_wp2_with fail
  (with_reducible refine (CN.out _).mono ?_)
  rintro e w1 ⟨rfl, b1⟩
  have x1 := heap_below x0 b1
  have bW1 : Below w.heap.size w w1 := bW0.trans (b1.mono bW0.size)
  go_wp2_with fail
  obtain ⟨W2, hW2⟩ : ∃ W2, (w1.alloc (.cells #[.int .i64 0, .int .i64 0] 23)).alloc (.cells #[.int .i64 0, .int .i64 0] 23) = W2 := ⟨_, rfl⟩
  have x2 : W2.heap[H]? = some (.cells #[.int .i64 P, .int .i64 Q] 23) := by rw [← hW2]; exact heap_alloc_old _ _ (heap_alloc_old _ _ x1)
  have a2 : W2.heap[w1.heap.size]? = some (.cells #[.int .i64 0, .int .i64 0] 23) := by rw [← hW2]; exact heap_alloc_old _ _ (heap_alloc_new _ _)
  have c2 : W2.heap[w1.heap.size + 1]? = some (.cells #[.int .i64 0, .int .i64 0] 23) := by rw [← hW2]; exact heap_new' _ _ _ (by simp)
  have bW2 : Below w.heap.size w W2 := by rw [← hW2]; exact (bW1.alloc bW1.size _).alloc (by simp; have := bW1.size; omega) _
  rw [hW2]
  clear b1 x1 bW1 hW2
  (with_reducible refine (CF.out _).mono ?_)
  rintro e w3 ⟨rfl, rfl⟩
  have x5 := x2
  have a5 := a2
  have c5 := c2
  have bW5 := bW2
  clear x2 a2 c2 bW2
  have z1 := heap_cell x5 0
  have z2 := heap_cell x5 1
  have z3 := heap_cell a5 0
  have z4 := heap_cell a5 1
  have z5 := heap_cell c5 0
  have z6 := heap_cell c5 1
  simp only [List.getElem?_toArray, List.getElem?_cons_zero, List.getElem?_cons_succ] at z1 z2 z3 z4 z5 z6
  go_wp2_with fail
  have bel := bW5
  go_ret
  exact ⟨rfl, bel⟩
theorem near_cases (P Q most : Int) : (∃ p q m : Nat, P = p ∧ Q = q ∧ most = m ∧ p ≤ 1000000 ∧ 1 ≤ q ∧ q ≤ 1000000 ∧ 1 ≤ m ∧ m ≤ 1000000) ∨ (nearB P Q most = false ∧
    (decide (Q < 1) = true ∨ (decide (Q < 1) = false ∧ decide (1000000 < Q) = true) ∨ (decide (Q < 1) = false ∧ decide (1000000 < Q) = false ∧ decide (P < 0) = true) ∨
     (decide (Q < 1) = false ∧ decide (1000000 < Q) = false ∧ decide (P < 0) = false ∧ decide (1000000 < P) = true) ∨
     (decide (Q < 1) = false ∧ decide (1000000 < Q) = false ∧ decide (P < 0) = false ∧ decide (1000000 < P) = false ∧ decide (most < 1) = true) ∨
     (decide (Q < 1) = false ∧ decide (1000000 < Q) = false ∧ decide (P < 0) = false ∧ decide (1000000 < P) = false ∧ decide (most < 1) = false ∧ decide (1000000 < most) = true))) := by
  cases hB : nearB P Q most with
  | true =>
    left
    unfold nearB at hB
    simp only [Bool.and_eq_true, decide_eq_true_eq] at hB
    obtain ⟨⟨hr, h1⟩, h2⟩ := hB
    obtain ⟨a, b, c, d⟩ := rgB_iff.1 hr
    exact ⟨P.toNat, Q.toNat, most.toNat, by omega, by omega, by omega, by omega, by omega, by omega, by omega, by omega⟩
  | false =>
    right
    refine ⟨rfl, ?_⟩
    simp only [decide_eq_true_eq, decide_eq_false_iff_not]
    have hn : ¬ (1 ≤ Q ∧ Q ≤ 1000000 ∧ 0 ≤ P ∧ P ≤ 1000000 ∧ 1 ≤ most ∧ most ≤ 1000000) := fun ⟨a, b, c, d, e, f⟩ => by
      unfold nearB at hB
      have hr : rgB P Q = true := rgB_iff.2 ⟨by omega, by omega, by omega, by omega⟩
      rw [hr] at hB
      simp at hB
      exact absurd (hB e) (by omega)
    omega
theorem farey_cases (n : Int) : (∃ N : Nat, n = N ∧ 1 ≤ N ∧ N ≤ 30) ∨ decide (n < 1) = true ∨ (decide (n < 1) = false ∧ decide (30 < n) = true) := by
  simp only [decide_eq_true_eq, decide_eq_false_iff_not]
  by_cases h : 1 ≤ n ∧ n ≤ 30
  · exact .inl ⟨n.toNat, by omega, by omega, by omega⟩
  · right; omega
theorem fracNear_walk (P Q most n : Int) (w : World) (_ : (Lit.int .i64 P).wf = true) (_ : (Lit.int .i64 Q).wf = true) (_ : (Lit.int .i64 most).wf = true) (_ : (Lit.int .i64 n).wf = true) :
    Calls Try.prog 3 #[.agg #[.int .i64 P, .int .i64 Q], .int .i64 most, .int .i64 n] w fun e w' => e = .returned (.bool true) ∧ Below w.heap.size w w' := by
  rcases near_cases P Q most with ⟨p, q, m, rfl, rfl, rfl, a, b, c, d, e⟩ | ⟨hB, h⟩
  · rcases farey_cases n with ⟨N, rfl, f1, f2⟩ | f1 | ⟨f1, f2⟩
    · exact fracNear_ok_ok p q m a b c d e N f1 f2 w
    · exact fracNear_ok_n1 p q m a b c d e n f1 w
    · exact fracNear_ok_n2 p q m a b c d e n f1 f2 w
  · rcases h with a | ⟨a, b⟩ | ⟨a, b, c⟩ | ⟨a, b, c, d⟩ | ⟨a, b, c, d, e⟩ | ⟨a, b, c, d, e, f⟩
    · rcases farey_cases n with ⟨N, rfl, f1, f2⟩ | f1 | ⟨f1, f2⟩
      · exact fracNear_q1_ok P Q most hB a N f1 f2 w
      · exact fracNear_q1_n1 P Q most hB a n f1 w
      · exact fracNear_q1_n2 P Q most hB a n f1 f2 w
    · rcases farey_cases n with ⟨N, rfl, f1, f2⟩ | f1 | ⟨f1, f2⟩
      · exact fracNear_q2_ok P Q most hB a b N f1 f2 w
      · exact fracNear_q2_n1 P Q most hB a b n f1 w
      · exact fracNear_q2_n2 P Q most hB a b n f1 f2 w
    · rcases farey_cases n with ⟨N, rfl, f1, f2⟩ | f1 | ⟨f1, f2⟩
      · exact fracNear_p1_ok P Q most hB a b c N f1 f2 w
      · exact fracNear_p1_n1 P Q most hB a b c n f1 w
      · exact fracNear_p1_n2 P Q most hB a b c n f1 f2 w
    · rcases farey_cases n with ⟨N, rfl, f1, f2⟩ | f1 | ⟨f1, f2⟩
      · exact fracNear_p2_ok P Q most hB a b c d N f1 f2 w
      · exact fracNear_p2_n1 P Q most hB a b c d n f1 w
      · exact fracNear_p2_n2 P Q most hB a b c d n f1 f2 w
    · rcases farey_cases n with ⟨N, rfl, f1, f2⟩ | f1 | ⟨f1, f2⟩
      · exact fracNear_m1_ok P Q most hB a b c d e N f1 f2 w
      · exact fracNear_m1_n1 P Q most hB a b c d e n f1 w
      · exact fracNear_m1_n2 P Q most hB a b c d e n f1 f2 w
    · rcases farey_cases n with ⟨N, rfl, f1, f2⟩ | f1 | ⟨f1, f2⟩
      · exact fracNear_m2_ok P Q most hB a b c d e f N f1 f2 w
      · exact fracNear_m2_n1 P Q most hB a b c d e f n f1 w
      · exact fracNear_m2_n2 P Q most hB a b c d e f n f1 f2 w
end Go.Proofs.Ythnbhhfbmkklmaa
