/- QuorumSays: for arbitrary quorums, all functions of package quorum answer what the reference answers. Conditions: none. -/
import Derived.Test.YtkincmkmkfiglaaRows
import Derived.Test.YtkincmkmkfiglaaQuorumL
namespace Go.Proofs.Ytkincmkmkfiglaa
open Go.RowKit

theorem ones_q {P : Program} {f : FuncId} {args : Array Value} {W : World} {v : Value} (h : Calls P f args W fun e w' => e = .returned v ∧ W = w') : Calls P f args W fun e w' => e = .returned v ∧ ∃ n, w' = W.drewN n :=
  h.mono fun e w' hh => ⟨hh.1, 0, hh.2.symm⟩
/-- What Least's answer holds. -/
structure LBox (W : World) (b : Nat) (n k x y : Int) : Prop where
  l0 : W.cell? ⟨b, 0, none⟩ = some (.int .i64 n)
  l1 : W.cell? ⟨b, 1, none⟩ = some (.int .i64 k)
  l2 : W.cell? ⟨b, 2, none⟩ = some (.int .i64 x)
  l3 : W.cell? ⟨b, 3, none⟩ = some (.int .i64 y)
theorem LBox.below {W W' : World} {b : Nat} {n k x y : Int} (h : LBox W b n k x y) (hb : Below W.heap.size W W') : LBox W' b n k x y :=
  ⟨below_keep hb h.l0, below_keep hb h.l1, below_keep hb h.l2, below_keep hb h.l3⟩
theorem lbox_new (w : World) (n k x y : Int) (t : TypeId) : LBox (w.alloc (.cells #[.int .i64 n, .int .i64 k, .int .i64 x, .int .i64 y] t)) w.heap.size n k x y :=
  ⟨cell_new' _ _ _ 0 _ _ rfl rfl, cell_new' _ _ _ 1 _ _ rfl rfl, cell_new' _ _ _ 2 _ _ rfl rfl, cell_new' _ _ _ 3 _ _ rfl rfl⟩

set_option maxRecDepth 100000 in
set_option maxHeartbeats 8000000 in
theorem quorumSays_A (n k wr r : Int) (a b : Nat) (an ab bn bb : Int) (w : World) (ha : a < 65536) (hb : b < 65536) (h : n < 1) (hq : qErr n k wr r = 1) :
    Calls Try.prog 3 #[qV n k wr r, .int .u16 a, .int .u16 b, sV an ab, sV bn bb] w fun e w' => e = .returned (.bool true) ∧ Below w.heap.size w w' := by
  have d1 : decide (n < 1) = true := decide_eq_true h
  have HL := Lib.hid (fun W => quorum_Least_bad n k W (by omega))
  have HM := Lib.hid (fun W => quorum_Meet n k wr r a b W ha hb)
  have hm : meetI n k wr r a b = (0, 1) := by unfold meetI; rw [hq, if_pos (by decide)]
  rw [hm] at HM
  have HE := Lib.hid (fun W => ref_QuorumErr n k wr r W)
  have HC := Lib.hid (fun W => quorum_Check n k wr r W)
  rw [hq] at HE HC
  have HN := Lib.hid (fun W => quorum_Newer an ab bn bb W)
  have HR := Lib.hid (fun W => ref_Newer an ab bn bb W)
  obtain ⟨B, hB⟩ : ∃ B, newB an ab bn bb = B := ⟨_, rfl⟩
  rw [hB] at HN HR
  have hBB : (B != B) = false := by simp
  have hBX := Lib.hid (boxes_new w n k wr r an ab bn bb 23 26)
  have hB0 : Hid (Below w.heap.size w (((w.alloc (.cells #[.int .i64 n, .int .i64 k, .int .i64 wr, .int .i64 r] 23)).alloc (.cells #[.int .i64 an, .int .i64 ab] 26)).alloc (.cells #[.int .i64 bn, .int .i64 bb] 26))) := ((below_alloc w _).alloc (by simp) _).alloc (by simp; try omega) _
  clear hm hq hB
  go_enter Try.func3, Try.ntmps3
  go_wp2_with fail
  refine (HL.out _).mono ?_
  rintro e w1 ⟨rfl, hb1⟩
  have HB1 := Lib.hid (below_chain hB0.out hb1)
  have BX1 := Lib.hid ((hBX.out.below hb1).below (below_alloc w1 (.cells #[.int .i64 0, .int .i64 0, .int .i64 0, .int .i64 0] 23)))
  have LB1 := Lib.hid (lbox_new w1 0 0 0 0 23)
  have HB1a := Lib.hid (below_chain HB1.out (below_alloc w1 (.cells #[.int .i64 0, .int .i64 0, .int .i64 0, .int .i64 0] 23)))
  obtain ⟨x0, x1, x2, x3, y0, y1, z0, z1⟩ := BX1.out
  clear hb1 hBX hB0 HL
  go_wp2_with fail
  refine (HM.out _).mono ?_
  rintro e w2 ⟨rfl, hb2⟩
  have HB2 := Lib.hid (below_chain HB1a.out hb2)
  have BX2 := Lib.hid (BX1.out.below hb2)
  have LB2 := Lib.hid (LB1.out.below hb2)
  clear x0 x1 x2 x3 y0 y1 z0 z1 hb2 HM BX1 LB1
  obtain ⟨x0, x1, x2, x3, y0, y1, z0, z1⟩ := BX2.out
  go_wp2_with fail
  refine (HE.out _).mono ?_
  rintro e w3 ⟨rfl, hb3⟩
  have HB3 := Lib.hid (below_chain HB2.out hb3)
  have BX3 := Lib.hid (BX2.out.below hb3)
  have LB3 := Lib.hid (LB2.out.below hb3)
  clear x0 x1 x2 x3 y0 y1 z0 z1 hb3 HE BX2 LB2
  obtain ⟨x0, x1, x2, x3, y0, y1, z0, z1⟩ := BX3.out
  go_wp2_with fail
  go_region_held3 (fun W' => W'.cell? ⟨w.heap.size, 0, none⟩ = some (.int .i64 n) ∧ W'.cell? ⟨w.heap.size, 1, none⟩ = some (.int .i64 k) ∧ W'.cell? ⟨w.heap.size, 2, none⟩ = some (.int .i64 wr) ∧ W'.cell? ⟨w.heap.size, 3, none⟩ = some (.int .i64 r) ∧ W'.cell? ⟨w.heap.size + 1, 0, none⟩ = some (.int .i64 an) ∧ W'.cell? ⟨w.heap.size + 1, 1, none⟩ = some (.int .i64 ab) ∧ W'.cell? ⟨w.heap.size + 1 + 1, 0, none⟩ = some (.int .i64 bn) ∧ W'.cell? ⟨w.heap.size + 1 + 1, 1, none⟩ = some (.int .i64 bb))
    (first | go_keep | (refine ⟨?_, ?_, ?_, ?_, ?_, ?_, ?_, ?_⟩ <;> first | exact below_keep hb7 (by go_keep) | exact below_keep hb6 (by go_keep) | exact below_keep hb5 (by go_keep)))
    (first | (go_at_call 18; refine (HC.out _).mono ?_; rintro e5 w5 ⟨rfl, hb5⟩) | (go_at_call 19; refine (HN.out _).mono ?_; rintro e6 w6 ⟨rfl, hb6⟩) | (go_at_call 20; refine (HR.out _).mono ?_; rintro e7 w7 ⟨rfl, hb7⟩) | fail)
  all_goals
    have b5 : Below w3.heap.size w3 w5 := below_chain (by repeat (first | (with_reducible exact Below.refl _ _) | (with_reducible apply below_drewN) | (with_reducible apply below_drew1))) hb5
    have b6 : Below w3.heap.size w3 w6 := below_chain (by repeat (first | exact b5 | (with_reducible apply below_drewN) | (with_reducible apply below_drew1))) hb6
    have b7 : Below w3.heap.size w3 w7 := below_chain (by repeat (first | exact b6 | (with_reducible apply below_drewN) | (with_reducible apply below_drew1))) hb7
    have BX7 := Lib.hid (BX3.out.below b7)
    have LB7 := Lib.hid (LB3.out.below b7)
    have HB7 := Lib.hid (below_chain HB3.out b7)
    clear x0 x1 x2 x3 y0 y1 z0 z1 hb5 hb6 hb7 b5 b6 b7
    obtain ⟨x0, x1, x2, x3, y0, y1, z0, z1⟩ := BX7.out
    obtain ⟨l0, l1, l2, l3⟩ := LB7.out
    go_wp2_with fail
    go_ret
    exact ⟨by simp, by repeat (first | exact HB7.out | apply below_drewN)⟩

set_option maxRecDepth 100000 in
set_option maxHeartbeats 8000000 in
theorem quorumSays_B (n k wr r : Int) (a b : Nat) (an ab bn bb : Int) (w : World) (ha : a < 65536) (hb : b < 65536) (h : 10 < n) (hq : qErr n k wr r = 1) :
    Calls Try.prog 3 #[qV n k wr r, .int .u16 a, .int .u16 b, sV an ab, sV bn bb] w fun e w' => e = .returned (.bool true) ∧ Below w.heap.size w w' := by
  have d1 : decide (n < 1) = false := decide_eq_false (by omega)
  have d2 : decide (10 < n) = true := decide_eq_true h
  have HL := Lib.hid (fun W => quorum_Least_bad n k W (by omega))
  have HM := Lib.hid (fun W => quorum_Meet n k wr r a b W ha hb)
  have hm : meetI n k wr r a b = (0, 1) := by unfold meetI; rw [hq, if_pos (by decide)]
  rw [hm] at HM
  have HE := Lib.hid (fun W => ref_QuorumErr n k wr r W)
  have HC := Lib.hid (fun W => quorum_Check n k wr r W)
  rw [hq] at HE HC
  have HN := Lib.hid (fun W => quorum_Newer an ab bn bb W)
  have HR := Lib.hid (fun W => ref_Newer an ab bn bb W)
  obtain ⟨B, hB⟩ : ∃ B, newB an ab bn bb = B := ⟨_, rfl⟩
  rw [hB] at HN HR
  have hBB : (B != B) = false := by simp
  have hBX := Lib.hid (boxes_new w n k wr r an ab bn bb 23 26)
  have hB0 : Hid (Below w.heap.size w (((w.alloc (.cells #[.int .i64 n, .int .i64 k, .int .i64 wr, .int .i64 r] 23)).alloc (.cells #[.int .i64 an, .int .i64 ab] 26)).alloc (.cells #[.int .i64 bn, .int .i64 bb] 26))) := ((below_alloc w _).alloc (by simp) _).alloc (by simp; try omega) _
  clear hm hq hB
  go_enter Try.func3, Try.ntmps3
  go_wp2_with fail
  refine (HL.out _).mono ?_
  rintro e w1 ⟨rfl, hb1⟩
  have HB1 := Lib.hid (below_chain hB0.out hb1)
  have BX1 := Lib.hid ((hBX.out.below hb1).below (below_alloc w1 (.cells #[.int .i64 0, .int .i64 0, .int .i64 0, .int .i64 0] 23)))
  have LB1 := Lib.hid (lbox_new w1 0 0 0 0 23)
  have HB1a := Lib.hid (below_chain HB1.out (below_alloc w1 (.cells #[.int .i64 0, .int .i64 0, .int .i64 0, .int .i64 0] 23)))
  obtain ⟨x0, x1, x2, x3, y0, y1, z0, z1⟩ := BX1.out
  clear hb1 hBX hB0 HL
  go_wp2_with fail
  refine (HM.out _).mono ?_
  rintro e w2 ⟨rfl, hb2⟩
  have HB2 := Lib.hid (below_chain HB1a.out hb2)
  have BX2 := Lib.hid (BX1.out.below hb2)
  have LB2 := Lib.hid (LB1.out.below hb2)
  clear x0 x1 x2 x3 y0 y1 z0 z1 hb2 HM BX1 LB1
  obtain ⟨x0, x1, x2, x3, y0, y1, z0, z1⟩ := BX2.out
  go_wp2_with fail
  refine (HE.out _).mono ?_
  rintro e w3 ⟨rfl, hb3⟩
  have HB3 := Lib.hid (below_chain HB2.out hb3)
  have BX3 := Lib.hid (BX2.out.below hb3)
  have LB3 := Lib.hid (LB2.out.below hb3)
  clear x0 x1 x2 x3 y0 y1 z0 z1 hb3 HE BX2 LB2
  obtain ⟨x0, x1, x2, x3, y0, y1, z0, z1⟩ := BX3.out
  go_wp2_with fail
  go_region_held3 (fun W' => W'.cell? ⟨w.heap.size, 0, none⟩ = some (.int .i64 n) ∧ W'.cell? ⟨w.heap.size, 1, none⟩ = some (.int .i64 k) ∧ W'.cell? ⟨w.heap.size, 2, none⟩ = some (.int .i64 wr) ∧ W'.cell? ⟨w.heap.size, 3, none⟩ = some (.int .i64 r) ∧ W'.cell? ⟨w.heap.size + 1, 0, none⟩ = some (.int .i64 an) ∧ W'.cell? ⟨w.heap.size + 1, 1, none⟩ = some (.int .i64 ab) ∧ W'.cell? ⟨w.heap.size + 1 + 1, 0, none⟩ = some (.int .i64 bn) ∧ W'.cell? ⟨w.heap.size + 1 + 1, 1, none⟩ = some (.int .i64 bb))
    (first | go_keep | (refine ⟨?_, ?_, ?_, ?_, ?_, ?_, ?_, ?_⟩ <;> first | exact below_keep hb7 (by go_keep) | exact below_keep hb6 (by go_keep) | exact below_keep hb5 (by go_keep)))
    (first | (go_at_call 18; refine (HC.out _).mono ?_; rintro e5 w5 ⟨rfl, hb5⟩) | (go_at_call 19; refine (HN.out _).mono ?_; rintro e6 w6 ⟨rfl, hb6⟩) | (go_at_call 20; refine (HR.out _).mono ?_; rintro e7 w7 ⟨rfl, hb7⟩) | fail)
  all_goals
    have b5 : Below w3.heap.size w3 w5 := below_chain (by repeat (first | (with_reducible exact Below.refl _ _) | (with_reducible apply below_drewN) | (with_reducible apply below_drew1))) hb5
    have b6 : Below w3.heap.size w3 w6 := below_chain (by repeat (first | exact b5 | (with_reducible apply below_drewN) | (with_reducible apply below_drew1))) hb6
    have b7 : Below w3.heap.size w3 w7 := below_chain (by repeat (first | exact b6 | (with_reducible apply below_drewN) | (with_reducible apply below_drew1))) hb7
    have BX7 := Lib.hid (BX3.out.below b7)
    have LB7 := Lib.hid (LB3.out.below b7)
    have HB7 := Lib.hid (below_chain HB3.out b7)
    clear x0 x1 x2 x3 y0 y1 z0 z1 hb5 hb6 hb7 b5 b6 b7
    obtain ⟨x0, x1, x2, x3, y0, y1, z0, z1⟩ := BX7.out
    obtain ⟨l0, l1, l2, l3⟩ := LB7.out
    go_wp2_with fail
    go_ret
    exact ⟨by simp, by repeat (first | exact HB7.out | apply below_drewN)⟩

set_option maxRecDepth 100000 in
set_option maxHeartbeats 8000000 in
theorem quorumSays_C1 (n k wr r : Int) (a b : Nat) (an ab bn bb : Int) (w : World) (ha : a < 65536) (hb : b < 65536) (h : 1 ≤ n) (h2 : n ≤ 10) (h3 : k < 1) (hq : qErr n k wr r = 1) :
    Calls Try.prog 3 #[qV n k wr r, .int .u16 a, .int .u16 b, sV an ab, sV bn bb] w fun e w' => e = .returned (.bool true) ∧ Below w.heap.size w w' := by
  have d1 : decide (n < 1) = false := decide_eq_false (by omega)
  have d2 : decide (10 < n) = false := decide_eq_false (by omega)
  have d3 : decide (k < 1) = true := decide_eq_true h3
  have HL := Lib.hid (fun W => quorum_Least_bad n k W (by omega))
  have HM := Lib.hid (fun W => quorum_Meet n k wr r a b W ha hb)
  have hm : meetI n k wr r a b = (0, 1) := by unfold meetI; rw [hq, if_pos (by decide)]
  rw [hm] at HM
  have HE := Lib.hid (fun W => ref_QuorumErr n k wr r W)
  have HC := Lib.hid (fun W => quorum_Check n k wr r W)
  rw [hq] at HE HC
  have HN := Lib.hid (fun W => quorum_Newer an ab bn bb W)
  have HR := Lib.hid (fun W => ref_Newer an ab bn bb W)
  obtain ⟨B, hB⟩ : ∃ B, newB an ab bn bb = B := ⟨_, rfl⟩
  rw [hB] at HN HR
  have hBB : (B != B) = false := by simp
  have hBX := Lib.hid (boxes_new w n k wr r an ab bn bb 23 26)
  have hB0 : Hid (Below w.heap.size w (((w.alloc (.cells #[.int .i64 n, .int .i64 k, .int .i64 wr, .int .i64 r] 23)).alloc (.cells #[.int .i64 an, .int .i64 ab] 26)).alloc (.cells #[.int .i64 bn, .int .i64 bb] 26))) := ((below_alloc w _).alloc (by simp) _).alloc (by simp; try omega) _
  clear hm hq hB
  go_enter Try.func3, Try.ntmps3
  go_wp2_with fail
  refine (HL.out _).mono ?_
  rintro e w1 ⟨rfl, hb1⟩
  have HB1 := Lib.hid (below_chain hB0.out hb1)
  have BX1 := Lib.hid ((hBX.out.below hb1).below (below_alloc w1 (.cells #[.int .i64 0, .int .i64 0, .int .i64 0, .int .i64 0] 23)))
  have LB1 := Lib.hid (lbox_new w1 0 0 0 0 23)
  have HB1a := Lib.hid (below_chain HB1.out (below_alloc w1 (.cells #[.int .i64 0, .int .i64 0, .int .i64 0, .int .i64 0] 23)))
  obtain ⟨x0, x1, x2, x3, y0, y1, z0, z1⟩ := BX1.out
  clear hb1 hBX hB0 HL
  go_wp2_with fail
  refine (HM.out _).mono ?_
  rintro e w2 ⟨rfl, hb2⟩
  have HB2 := Lib.hid (below_chain HB1a.out hb2)
  have BX2 := Lib.hid (BX1.out.below hb2)
  have LB2 := Lib.hid (LB1.out.below hb2)
  clear x0 x1 x2 x3 y0 y1 z0 z1 hb2 HM BX1 LB1
  obtain ⟨x0, x1, x2, x3, y0, y1, z0, z1⟩ := BX2.out
  go_wp2_with fail
  refine (HE.out _).mono ?_
  rintro e w3 ⟨rfl, hb3⟩
  have HB3 := Lib.hid (below_chain HB2.out hb3)
  have BX3 := Lib.hid (BX2.out.below hb3)
  have LB3 := Lib.hid (LB2.out.below hb3)
  clear x0 x1 x2 x3 y0 y1 z0 z1 hb3 HE BX2 LB2
  obtain ⟨x0, x1, x2, x3, y0, y1, z0, z1⟩ := BX3.out
  go_wp2_with fail
  go_region_held3 (fun W' => W'.cell? ⟨w.heap.size, 0, none⟩ = some (.int .i64 n) ∧ W'.cell? ⟨w.heap.size, 1, none⟩ = some (.int .i64 k) ∧ W'.cell? ⟨w.heap.size, 2, none⟩ = some (.int .i64 wr) ∧ W'.cell? ⟨w.heap.size, 3, none⟩ = some (.int .i64 r) ∧ W'.cell? ⟨w.heap.size + 1, 0, none⟩ = some (.int .i64 an) ∧ W'.cell? ⟨w.heap.size + 1, 1, none⟩ = some (.int .i64 ab) ∧ W'.cell? ⟨w.heap.size + 1 + 1, 0, none⟩ = some (.int .i64 bn) ∧ W'.cell? ⟨w.heap.size + 1 + 1, 1, none⟩ = some (.int .i64 bb))
    (first | go_keep | (refine ⟨?_, ?_, ?_, ?_, ?_, ?_, ?_, ?_⟩ <;> first | exact below_keep hb7 (by go_keep) | exact below_keep hb6 (by go_keep) | exact below_keep hb5 (by go_keep)))
    (first | (go_at_call 18; refine (HC.out _).mono ?_; rintro e5 w5 ⟨rfl, hb5⟩) | (go_at_call 19; refine (HN.out _).mono ?_; rintro e6 w6 ⟨rfl, hb6⟩) | (go_at_call 20; refine (HR.out _).mono ?_; rintro e7 w7 ⟨rfl, hb7⟩) | fail)
  all_goals
    have b5 : Below w3.heap.size w3 w5 := below_chain (by repeat (first | (with_reducible exact Below.refl _ _) | (with_reducible apply below_drewN) | (with_reducible apply below_drew1))) hb5
    have b6 : Below w3.heap.size w3 w6 := below_chain (by repeat (first | exact b5 | (with_reducible apply below_drewN) | (with_reducible apply below_drew1))) hb6
    have b7 : Below w3.heap.size w3 w7 := below_chain (by repeat (first | exact b6 | (with_reducible apply below_drewN) | (with_reducible apply below_drew1))) hb7
    have BX7 := Lib.hid (BX3.out.below b7)
    have LB7 := Lib.hid (LB3.out.below b7)
    have HB7 := Lib.hid (below_chain HB3.out b7)
    clear x0 x1 x2 x3 y0 y1 z0 z1 hb5 hb6 hb7 b5 b6 b7
    obtain ⟨x0, x1, x2, x3, y0, y1, z0, z1⟩ := BX7.out
    obtain ⟨l0, l1, l2, l3⟩ := LB7.out
    go_wp2_with fail
    go_ret
    exact ⟨by simp, by repeat (first | exact HB7.out | apply below_drewN)⟩

set_option maxRecDepth 100000 in
set_option maxHeartbeats 8000000 in
theorem quorumSays_C2 (n k wr r : Int) (a b : Nat) (an ab bn bb : Int) (w : World) (ha : a < 65536) (hb : b < 65536) (h : 1 ≤ n) (h2 : n ≤ 10) (h3 : 1 ≤ k) (h4 : n < k) (hq : qErr n k wr r = 1) :
    Calls Try.prog 3 #[qV n k wr r, .int .u16 a, .int .u16 b, sV an ab, sV bn bb] w fun e w' => e = .returned (.bool true) ∧ Below w.heap.size w w' := by
  have d1 : decide (n < 1) = false := decide_eq_false (by omega)
  have d2 : decide (10 < n) = false := decide_eq_false (by omega)
  have d3 : decide (k < 1) = false := decide_eq_false (by omega)
  have d4 : decide (n < k) = true := decide_eq_true h4
  have HL := Lib.hid (fun W => quorum_Least_bad n k W (by omega))
  have HM := Lib.hid (fun W => quorum_Meet n k wr r a b W ha hb)
  have hm : meetI n k wr r a b = (0, 1) := by unfold meetI; rw [hq, if_pos (by decide)]
  rw [hm] at HM
  have HE := Lib.hid (fun W => ref_QuorumErr n k wr r W)
  have HC := Lib.hid (fun W => quorum_Check n k wr r W)
  rw [hq] at HE HC
  have HN := Lib.hid (fun W => quorum_Newer an ab bn bb W)
  have HR := Lib.hid (fun W => ref_Newer an ab bn bb W)
  obtain ⟨B, hB⟩ : ∃ B, newB an ab bn bb = B := ⟨_, rfl⟩
  rw [hB] at HN HR
  have hBB : (B != B) = false := by simp
  have hBX := Lib.hid (boxes_new w n k wr r an ab bn bb 23 26)
  have hB0 : Hid (Below w.heap.size w (((w.alloc (.cells #[.int .i64 n, .int .i64 k, .int .i64 wr, .int .i64 r] 23)).alloc (.cells #[.int .i64 an, .int .i64 ab] 26)).alloc (.cells #[.int .i64 bn, .int .i64 bb] 26))) := ((below_alloc w _).alloc (by simp) _).alloc (by simp; try omega) _
  clear hm hq hB
  go_enter Try.func3, Try.ntmps3
  go_wp2_with fail
  refine (HL.out _).mono ?_
  rintro e w1 ⟨rfl, hb1⟩
  have HB1 := Lib.hid (below_chain hB0.out hb1)
  have BX1 := Lib.hid ((hBX.out.below hb1).below (below_alloc w1 (.cells #[.int .i64 0, .int .i64 0, .int .i64 0, .int .i64 0] 23)))
  have LB1 := Lib.hid (lbox_new w1 0 0 0 0 23)
  have HB1a := Lib.hid (below_chain HB1.out (below_alloc w1 (.cells #[.int .i64 0, .int .i64 0, .int .i64 0, .int .i64 0] 23)))
  obtain ⟨x0, x1, x2, x3, y0, y1, z0, z1⟩ := BX1.out
  clear hb1 hBX hB0 HL
  go_wp2_with fail
  refine (HM.out _).mono ?_
  rintro e w2 ⟨rfl, hb2⟩
  have HB2 := Lib.hid (below_chain HB1a.out hb2)
  have BX2 := Lib.hid (BX1.out.below hb2)
  have LB2 := Lib.hid (LB1.out.below hb2)
  clear x0 x1 x2 x3 y0 y1 z0 z1 hb2 HM BX1 LB1
  obtain ⟨x0, x1, x2, x3, y0, y1, z0, z1⟩ := BX2.out
  go_wp2_with fail
  refine (HE.out _).mono ?_
  rintro e w3 ⟨rfl, hb3⟩
  have HB3 := Lib.hid (below_chain HB2.out hb3)
  have BX3 := Lib.hid (BX2.out.below hb3)
  have LB3 := Lib.hid (LB2.out.below hb3)
  clear x0 x1 x2 x3 y0 y1 z0 z1 hb3 HE BX2 LB2
  obtain ⟨x0, x1, x2, x3, y0, y1, z0, z1⟩ := BX3.out
  go_wp2_with fail
  go_region_held3 (fun W' => W'.cell? ⟨w.heap.size, 0, none⟩ = some (.int .i64 n) ∧ W'.cell? ⟨w.heap.size, 1, none⟩ = some (.int .i64 k) ∧ W'.cell? ⟨w.heap.size, 2, none⟩ = some (.int .i64 wr) ∧ W'.cell? ⟨w.heap.size, 3, none⟩ = some (.int .i64 r) ∧ W'.cell? ⟨w.heap.size + 1, 0, none⟩ = some (.int .i64 an) ∧ W'.cell? ⟨w.heap.size + 1, 1, none⟩ = some (.int .i64 ab) ∧ W'.cell? ⟨w.heap.size + 1 + 1, 0, none⟩ = some (.int .i64 bn) ∧ W'.cell? ⟨w.heap.size + 1 + 1, 1, none⟩ = some (.int .i64 bb))
    (first | go_keep | (refine ⟨?_, ?_, ?_, ?_, ?_, ?_, ?_, ?_⟩ <;> first | exact below_keep hb7 (by go_keep) | exact below_keep hb6 (by go_keep) | exact below_keep hb5 (by go_keep)))
    (first | (go_at_call 18; refine (HC.out _).mono ?_; rintro e5 w5 ⟨rfl, hb5⟩) | (go_at_call 19; refine (HN.out _).mono ?_; rintro e6 w6 ⟨rfl, hb6⟩) | (go_at_call 20; refine (HR.out _).mono ?_; rintro e7 w7 ⟨rfl, hb7⟩) | fail)
  all_goals
    have b5 : Below w3.heap.size w3 w5 := below_chain (by repeat (first | (with_reducible exact Below.refl _ _) | (with_reducible apply below_drewN) | (with_reducible apply below_drew1))) hb5
    have b6 : Below w3.heap.size w3 w6 := below_chain (by repeat (first | exact b5 | (with_reducible apply below_drewN) | (with_reducible apply below_drew1))) hb6
    have b7 : Below w3.heap.size w3 w7 := below_chain (by repeat (first | exact b6 | (with_reducible apply below_drewN) | (with_reducible apply below_drew1))) hb7
    have BX7 := Lib.hid (BX3.out.below b7)
    have LB7 := Lib.hid (LB3.out.below b7)
    have HB7 := Lib.hid (below_chain HB3.out b7)
    clear x0 x1 x2 x3 y0 y1 z0 z1 hb5 hb6 hb7 b5 b6 b7
    obtain ⟨x0, x1, x2, x3, y0, y1, z0, z1⟩ := BX7.out
    obtain ⟨l0, l1, l2, l3⟩ := LB7.out
    go_wp2_with fail
    go_ret
    exact ⟨by simp, by repeat (first | exact HB7.out | apply below_drewN)⟩

set_option maxRecDepth 100000 in
set_option maxHeartbeats 8000000 in
theorem quorumSays_D (n k : Nat) (wr r : Int) (a b : Nat) (an ab bn bb : Int) (w : World) (ha : a < 65536) (hb : b < 65536) (h : 1 ≤ n) (h2 : n ≤ 10) (h3 : 1 ≤ k) (h4 : k ≤ n) (hq : qErr n k wr r = 1) :
    Calls Try.prog 3 #[qV n k wr r, .int .u16 a, .int .u16 b, sV an ab, sV bn bb] w fun e w' => e = .returned (.bool true) ∧ Below w.heap.size w w' := by
  have d1 : decide ((n : Int) < 1) = false := decide_eq_false (by omega)
  have d2 : decide ((10 : Int) < n) = false := decide_eq_false (by omega)
  have d3 : decide ((k : Int) < 1) = false := decide_eq_false (by omega)
  have d4 : decide ((n : Int) < k) = false := decide_eq_false (by omega)
  have d5 : decide (n < k) = false := decide_eq_false (by omega)
  obtain ⟨s, hs⟩ : ∃ s, n + k = s := ⟨_, rfl⟩
  obtain ⟨t, ht⟩ : ∃ t, s % 2 = t := ⟨_, rfl⟩
  obtain ⟨x, hx⟩ : ∃ x, (n + k + 1) / 2 = x := ⟨_, rfl⟩
  obtain ⟨y, hy⟩ : ∃ y, (n + k) / 2 = y := ⟨_, rfl⟩
  have HL := Lib.hid (fun W => quorum_Least n k W (by omega) (by omega) (by omega) (by omega) x y hx hy)
  have es : (n : Int) + (k : Int) = (s : Int) := by omega
  have ex : (x : Int) + (y : Int) = (s : Int) := by omega
  have ey : (x : Int) - (y : Int) = (t : Int) := by omega
  have et : (s : Int) % 2 = (t : Int) := by omega
  have et2 : Int.tmod (s : Int) 2 = (t : Int) := by rw [Int.tmod_eq_emod_of_nonneg (by omega), et]
  have wS : IntKind.i64.wrap (s : Int) = (s : Int) := IntWalk.i64_in _ (by omega)
  have wT : IntKind.i64.wrap (t : Int) = (t : Int) := IntWalk.i64_in _ (by omega)
  have hs0 : ((s : Int) != (s : Int)) = false := by simp
  have ht0 : ((t : Int) != (t : Int)) = false := by simp
  have hn0 : ((n : Int) != (n : Int)) = false := by simp
  have hk0 : ((k : Int) != (k : Int)) = false := by simp
  have HM := Lib.hid (fun W => quorum_Meet n k wr r a b W ha hb)
  have hm : meetI n k wr r a b = (0, 1) := by unfold meetI; rw [hq, if_pos (by decide)]
  rw [hm] at HM
  have HE := Lib.hid (fun W => ref_QuorumErr n k wr r W)
  have HC := Lib.hid (fun W => quorum_Check n k wr r W)
  rw [hq] at HE HC
  have HN := Lib.hid (fun W => quorum_Newer an ab bn bb W)
  have HR := Lib.hid (fun W => ref_Newer an ab bn bb W)
  obtain ⟨B, hB⟩ : ∃ B, newB an ab bn bb = B := ⟨_, rfl⟩
  rw [hB] at HN HR
  have hBB : (B != B) = false := by simp
  have hBX := Lib.hid (boxes_new w n k wr r an ab bn bb 23 26)
  have hB0 : Hid (Below w.heap.size w (((w.alloc (.cells #[.int .i64 n, .int .i64 k, .int .i64 wr, .int .i64 r] 23)).alloc (.cells #[.int .i64 an, .int .i64 ab] 26)).alloc (.cells #[.int .i64 bn, .int .i64 bb] 26))) := ((below_alloc w _).alloc (by simp) _).alloc (by simp; try omega) _
  clear hm hq hB hs ht hx hy
  go_enter Try.func3, Try.ntmps3
  go_wp2_with fail
  refine (HL.out _).mono ?_
  rintro e w1 ⟨rfl, hb1⟩
  have HB1 := Lib.hid (below_chain hB0.out hb1)
  have BX1 := Lib.hid ((hBX.out.below hb1).below (below_alloc w1 (.cells #[.int .i64 (n : Int), .int .i64 (k : Int), .int .i64 (x : Int), .int .i64 (y : Int)] 23)))
  have LB1 := Lib.hid (lbox_new w1 (n : Int) (k : Int) (x : Int) (y : Int) 23)
  have HB1a := Lib.hid (below_chain HB1.out (below_alloc w1 (.cells #[.int .i64 (n : Int), .int .i64 (k : Int), .int .i64 (x : Int), .int .i64 (y : Int)] 23)))
  obtain ⟨x0, x1, x2, x3, y0, y1, z0, z1⟩ := BX1.out
  clear hb1 hBX hB0 HL
  go_wp2_with fail
  refine (HM.out _).mono ?_
  rintro e w2 ⟨rfl, hb2⟩
  have HB2 := Lib.hid (below_chain HB1a.out hb2)
  have BX2 := Lib.hid (BX1.out.below hb2)
  have LB2 := Lib.hid (LB1.out.below hb2)
  clear x0 x1 x2 x3 y0 y1 z0 z1 hb2 HM BX1 LB1
  obtain ⟨x0, x1, x2, x3, y0, y1, z0, z1⟩ := BX2.out
  go_wp2_with fail
  refine (HE.out _).mono ?_
  rintro e w3 ⟨rfl, hb3⟩
  have HB3 := Lib.hid (below_chain HB2.out hb3)
  have BX3 := Lib.hid (BX2.out.below hb3)
  have LB3 := Lib.hid (LB2.out.below hb3)
  clear x0 x1 x2 x3 y0 y1 z0 z1 hb3 HE BX2 LB2
  obtain ⟨x0, x1, x2, x3, y0, y1, z0, z1⟩ := BX3.out
  go_wp2_with fail
  go_region_held3 (fun W' => W'.cell? ⟨w.heap.size, 0, none⟩ = some (.int .i64 n) ∧ W'.cell? ⟨w.heap.size, 1, none⟩ = some (.int .i64 k) ∧ W'.cell? ⟨w.heap.size, 2, none⟩ = some (.int .i64 wr) ∧ W'.cell? ⟨w.heap.size, 3, none⟩ = some (.int .i64 r) ∧ W'.cell? ⟨w.heap.size + 1, 0, none⟩ = some (.int .i64 an) ∧ W'.cell? ⟨w.heap.size + 1, 1, none⟩ = some (.int .i64 ab) ∧ W'.cell? ⟨w.heap.size + 1 + 1, 0, none⟩ = some (.int .i64 bn) ∧ W'.cell? ⟨w.heap.size + 1 + 1, 1, none⟩ = some (.int .i64 bb))
    (first | go_keep | (refine ⟨?_, ?_, ?_, ?_, ?_, ?_, ?_, ?_⟩ <;> first | exact below_keep hb7 (by go_keep) | exact below_keep hb6 (by go_keep) | exact below_keep hb5 (by go_keep)))
    (first | (go_at_call 18; refine (HC.out _).mono ?_; rintro e5 w5 ⟨rfl, hb5⟩) | (go_at_call 19; refine (HN.out _).mono ?_; rintro e6 w6 ⟨rfl, hb6⟩) | (go_at_call 20; refine (HR.out _).mono ?_; rintro e7 w7 ⟨rfl, hb7⟩) | fail)
  all_goals
    have b5 : Below w3.heap.size w3 w5 := below_chain (by repeat (first | (with_reducible exact Below.refl _ _) | (with_reducible apply below_drewN) | (with_reducible apply below_drew1))) hb5
    have b6 : Below w3.heap.size w3 w6 := below_chain (by repeat (first | exact b5 | (with_reducible apply below_drewN) | (with_reducible apply below_drew1))) hb6
    have b7 : Below w3.heap.size w3 w7 := below_chain (by repeat (first | exact b6 | (with_reducible apply below_drewN) | (with_reducible apply below_drew1))) hb7
    have BX7 := Lib.hid (BX3.out.below b7)
    have LB7 := Lib.hid (LB3.out.below b7)
    have HB7 := Lib.hid (below_chain HB3.out b7)
    clear x0 x1 x2 x3 y0 y1 z0 z1 hb5 hb6 hb7 b5 b6 b7
    obtain ⟨x0, x1, x2, x3, y0, y1, z0, z1⟩ := BX7.out
    obtain ⟨l0, l1, l2, l3⟩ := LB7.out
    go_wp2_with fail
    go_ret
    exact ⟨by simp, by repeat (first | exact HB7.out | apply below_drewN)⟩

set_option maxRecDepth 100000 in
set_option maxHeartbeats 8000000 in
theorem quorumSays_F (n k : Nat) (wr r : Int) (a b : Nat) (an ab bn bb : Int) (w : World) (ha : a < 65536) (hb : b < 65536) (h : 1 ≤ n) (h2 : n ≤ 10) (h3 : 1 ≤ k) (h4 : k ≤ n) (hq : qErr n k wr r = 9) :
    Calls Try.prog 3 #[qV n k wr r, .int .u16 a, .int .u16 b, sV an ab, sV bn bb] w fun e w' => e = .returned (.bool true) ∧ Below w.heap.size w w' := by
  have d1 : decide ((n : Int) < 1) = false := decide_eq_false (by omega)
  have d2 : decide ((10 : Int) < n) = false := decide_eq_false (by omega)
  have d3 : decide ((k : Int) < 1) = false := decide_eq_false (by omega)
  have d4 : decide ((n : Int) < k) = false := decide_eq_false (by omega)
  have d5 : decide (n < k) = false := decide_eq_false (by omega)
  obtain ⟨s, hs⟩ : ∃ s, n + k = s := ⟨_, rfl⟩
  obtain ⟨t, ht⟩ : ∃ t, s % 2 = t := ⟨_, rfl⟩
  obtain ⟨x, hx⟩ : ∃ x, (n + k + 1) / 2 = x := ⟨_, rfl⟩
  obtain ⟨y, hy⟩ : ∃ y, (n + k) / 2 = y := ⟨_, rfl⟩
  have HL := Lib.hid (fun W => quorum_Least n k W (by omega) (by omega) (by omega) (by omega) x y hx hy)
  have es : (n : Int) + (k : Int) = (s : Int) := by omega
  have ex : (x : Int) + (y : Int) = (s : Int) := by omega
  have ey : (x : Int) - (y : Int) = (t : Int) := by omega
  have et : (s : Int) % 2 = (t : Int) := by omega
  have et2 : Int.tmod (s : Int) 2 = (t : Int) := by rw [Int.tmod_eq_emod_of_nonneg (by omega), et]
  have wS : IntKind.i64.wrap (s : Int) = (s : Int) := IntWalk.i64_in _ (by omega)
  have wT : IntKind.i64.wrap (t : Int) = (t : Int) := IntWalk.i64_in _ (by omega)
  have hs0 : ((s : Int) != (s : Int)) = false := by simp
  have ht0 : ((t : Int) != (t : Int)) = false := by simp
  have hn0 : ((n : Int) != (n : Int)) = false := by simp
  have hk0 : ((k : Int) != (k : Int)) = false := by simp
  have HM := Lib.hid (fun W => quorum_Meet n k wr r a b W ha hb)
  have hm : meetI n k wr r a b = (0, 9) := by unfold meetI; rw [hq, if_pos (by decide)]
  rw [hm] at HM
  have HE := Lib.hid (fun W => ref_QuorumErr n k wr r W)
  have HC := Lib.hid (fun W => quorum_Check n k wr r W)
  rw [hq] at HE HC
  have HN := Lib.hid (fun W => quorum_Newer an ab bn bb W)
  have HR := Lib.hid (fun W => ref_Newer an ab bn bb W)
  obtain ⟨B, hB⟩ : ∃ B, newB an ab bn bb = B := ⟨_, rfl⟩
  rw [hB] at HN HR
  have hBB : (B != B) = false := by simp
  have hBX := Lib.hid (boxes_new w n k wr r an ab bn bb 23 26)
  have hB0 : Hid (Below w.heap.size w (((w.alloc (.cells #[.int .i64 n, .int .i64 k, .int .i64 wr, .int .i64 r] 23)).alloc (.cells #[.int .i64 an, .int .i64 ab] 26)).alloc (.cells #[.int .i64 bn, .int .i64 bb] 26))) := ((below_alloc w _).alloc (by simp) _).alloc (by simp; try omega) _
  clear hm hq hB hs ht hx hy
  go_enter Try.func3, Try.ntmps3
  go_wp2_with fail
  refine (HL.out _).mono ?_
  rintro e w1 ⟨rfl, hb1⟩
  have HB1 := Lib.hid (below_chain hB0.out hb1)
  have BX1 := Lib.hid ((hBX.out.below hb1).below (below_alloc w1 (.cells #[.int .i64 (n : Int), .int .i64 (k : Int), .int .i64 (x : Int), .int .i64 (y : Int)] 23)))
  have LB1 := Lib.hid (lbox_new w1 (n : Int) (k : Int) (x : Int) (y : Int) 23)
  have HB1a := Lib.hid (below_chain HB1.out (below_alloc w1 (.cells #[.int .i64 (n : Int), .int .i64 (k : Int), .int .i64 (x : Int), .int .i64 (y : Int)] 23)))
  obtain ⟨x0, x1, x2, x3, y0, y1, z0, z1⟩ := BX1.out
  clear hb1 hBX hB0 HL
  go_wp2_with fail
  refine (HM.out _).mono ?_
  rintro e w2 ⟨rfl, hb2⟩
  have HB2 := Lib.hid (below_chain HB1a.out hb2)
  have BX2 := Lib.hid (BX1.out.below hb2)
  have LB2 := Lib.hid (LB1.out.below hb2)
  clear x0 x1 x2 x3 y0 y1 z0 z1 hb2 HM BX1 LB1
  obtain ⟨x0, x1, x2, x3, y0, y1, z0, z1⟩ := BX2.out
  go_wp2_with fail
  refine (HE.out _).mono ?_
  rintro e w3 ⟨rfl, hb3⟩
  have HB3 := Lib.hid (below_chain HB2.out hb3)
  have BX3 := Lib.hid (BX2.out.below hb3)
  have LB3 := Lib.hid (LB2.out.below hb3)
  clear x0 x1 x2 x3 y0 y1 z0 z1 hb3 HE BX2 LB2
  obtain ⟨x0, x1, x2, x3, y0, y1, z0, z1⟩ := BX3.out
  go_wp2_with fail
  go_region_held3 (fun W' => W'.cell? ⟨w.heap.size, 0, none⟩ = some (.int .i64 n) ∧ W'.cell? ⟨w.heap.size, 1, none⟩ = some (.int .i64 k) ∧ W'.cell? ⟨w.heap.size, 2, none⟩ = some (.int .i64 wr) ∧ W'.cell? ⟨w.heap.size, 3, none⟩ = some (.int .i64 r) ∧ W'.cell? ⟨w.heap.size + 1, 0, none⟩ = some (.int .i64 an) ∧ W'.cell? ⟨w.heap.size + 1, 1, none⟩ = some (.int .i64 ab) ∧ W'.cell? ⟨w.heap.size + 1 + 1, 0, none⟩ = some (.int .i64 bn) ∧ W'.cell? ⟨w.heap.size + 1 + 1, 1, none⟩ = some (.int .i64 bb))
    (first | go_keep | (refine ⟨?_, ?_, ?_, ?_, ?_, ?_, ?_, ?_⟩ <;> first | exact below_keep hb7 (by go_keep) | exact below_keep hb6 (by go_keep) | exact below_keep hb5 (by go_keep)))
    (first | (go_at_call 18; refine (HC.out _).mono ?_; rintro e5 w5 ⟨rfl, hb5⟩) | (go_at_call 19; refine (HN.out _).mono ?_; rintro e6 w6 ⟨rfl, hb6⟩) | (go_at_call 20; refine (HR.out _).mono ?_; rintro e7 w7 ⟨rfl, hb7⟩) | fail)
  all_goals
    have b5 : Below w3.heap.size w3 w5 := below_chain (by repeat (first | (with_reducible exact Below.refl _ _) | (with_reducible apply below_drewN) | (with_reducible apply below_drew1))) hb5
    have b6 : Below w3.heap.size w3 w6 := below_chain (by repeat (first | exact b5 | (with_reducible apply below_drewN) | (with_reducible apply below_drew1))) hb6
    have b7 : Below w3.heap.size w3 w7 := below_chain (by repeat (first | exact b6 | (with_reducible apply below_drewN) | (with_reducible apply below_drew1))) hb7
    have BX7 := Lib.hid (BX3.out.below b7)
    have LB7 := Lib.hid (LB3.out.below b7)
    have HB7 := Lib.hid (below_chain HB3.out b7)
    clear x0 x1 x2 x3 y0 y1 z0 z1 hb5 hb6 hb7 b5 b6 b7
    obtain ⟨x0, x1, x2, x3, y0, y1, z0, z1⟩ := BX7.out
    obtain ⟨l0, l1, l2, l3⟩ := LB7.out
    go_wp2_with fail
    go_ret
    exact ⟨by simp, by repeat (first | exact HB7.out | apply below_drewN)⟩

set_option maxRecDepth 100000 in
set_option maxHeartbeats 8000000 in
theorem quorumSays_G1 (n k : Nat) (wr r : Int) (a b : Nat) (an ab bn bb : Int) (w : World) (ha : a < 65536) (hb : b < 65536) (h : 1 ≤ n) (h2 : n ≤ 10) (h3 : 1 ≤ k) (h4 : k ≤ n) (hq : qErr n k wr r = 0) (hm1 : 2 ^ n ≤ a ∨ 2 ^ n ≤ b) (hm : meetI n k wr r a b = (0, 3)) :
    Calls Try.prog 3 #[qV n k wr r, .int .u16 a, .int .u16 b, sV an ab, sV bn bb] w fun e w' => e = .returned (.bool true) ∧ Below w.heap.size w w' := by
  have d1 : decide ((n : Int) < 1) = false := decide_eq_false (by omega)
  have d2 : decide ((10 : Int) < n) = false := decide_eq_false (by omega)
  have d3 : decide ((k : Int) < 1) = false := decide_eq_false (by omega)
  have d4 : decide ((n : Int) < k) = false := decide_eq_false (by omega)
  have d5 : decide (n < k) = false := decide_eq_false (by omega)
  obtain ⟨s, hs⟩ : ∃ s, n + k = s := ⟨_, rfl⟩
  obtain ⟨t, ht⟩ : ∃ t, s % 2 = t := ⟨_, rfl⟩
  obtain ⟨x, hx⟩ : ∃ x, (n + k + 1) / 2 = x := ⟨_, rfl⟩
  obtain ⟨y, hy⟩ : ∃ y, (n + k) / 2 = y := ⟨_, rfl⟩
  have HL := Lib.hid (fun W => quorum_Least n k W (by omega) (by omega) (by omega) (by omega) x y hx hy)
  have es : (n : Int) + (k : Int) = (s : Int) := by omega
  have ex : (x : Int) + (y : Int) = (s : Int) := by omega
  have ey : (x : Int) - (y : Int) = (t : Int) := by omega
  have et : (s : Int) % 2 = (t : Int) := by omega
  have et2 : Int.tmod (s : Int) 2 = (t : Int) := by rw [Int.tmod_eq_emod_of_nonneg (by omega), et]
  have wS : IntKind.i64.wrap (s : Int) = (s : Int) := IntWalk.i64_in _ (by omega)
  have wT : IntKind.i64.wrap (t : Int) = (t : Int) := IntWalk.i64_in _ (by omega)
  have hs0 : ((s : Int) != (s : Int)) = false := by simp
  have ht0 : ((t : Int) != (t : Int)) = false := by simp
  have hn0 : ((n : Int) != (n : Int)) = false := by simp
  have hk0 : ((k : Int) != (k : Int)) = false := by simp
  obtain ⟨c2, hc2⟩ : ∃ c2, a ||| b = c2 := ⟨_, rfl⟩
  obtain ⟨c, hc⟩ : ∃ c, a &&& b = c := ⟨_, rfl⟩
  have hc2b : c2 < 65536 := by rw [← hc2]; exact Nat.or_lt_two_pow (n := 16) ha hb
  have hcb : c < 65536 := by rw [← hc]; exact Nat.lt_of_le_of_lt Nat.and_le_left ha
  have eor := u16_or_nat a b ha hb
  have eand := u16_and_nat a b ha hb
  rw [hc2] at eor
  rw [hc] at eand
  have wa : IntKind.i64.wrap (a : Int) = (a : Int) := IntWalk.i64_in _ (by omega)
  have wb : IntKind.i64.wrap (b : Int) = (b : Int) := IntWalk.i64_in _ (by omega)
  have wc : IntKind.i64.wrap (c : Int) = (c : Int) := IntWalk.i64_in _ (by omega)
  have wc2 : IntKind.i64.wrap (c2 : Int) = (c2 : Int) := IntWalk.i64_in _ (by omega)
  obtain ⟨T, hT⟩ : ∃ T, 2 ^ n = T := ⟨_, rfl⟩
  have hT1 : T ≤ 1024 := by rw [← hT]; exact Nat.pow_le_pow_right (n := 2) (by omega) (show n ≤ 10 by omega)
  have eT : IntKind.i64.wrap ((2 : Int) ^ n) = (T : Int) := by
    have : ((2 : Int) ^ n) = (T : Int) := by rw [← hT, Int.natCast_pow]; rfl
    rw [this]; exact IntWalk.i64_in _ (by omega)
  rw [hT] at hm1
  have HO1 := Lib.hid (fun W => ref_Ones a W ha)
  have HO2 := Lib.hid (fun W => ref_Ones b W hb)
  have HO3 := Lib.hid (fun W => ref_Ones c W hcb)
  obtain ⟨o1, ho1⟩ : ∃ o1, ones16 a = o1 := ⟨_, rfl⟩
  obtain ⟨o2, ho2⟩ : ∃ o2, ones16 b = o2 := ⟨_, rfl⟩
  obtain ⟨o3, ho3⟩ : ∃ o3, ones16 c = o3 := ⟨_, rfl⟩
  rw [ho1] at HO1
  rw [ho2] at HO2
  rw [ho3] at HO3
  have HQ1 := Lib.hid (fun W => ones_q (HO1.out W))
  have HQ2 := Lib.hid (fun W => ones_q (HO2.out W))
  have hle1 : a ≤ c2 := by rw [← hc2]; exact Nat.left_le_or
  have hle2 : b ≤ c2 := by rw [← hc2]; exact Nat.right_le_or
  have f1 : decide ((T : Int) ≤ (c2 : Int)) = true := by simp; omega
  have f1b : decide (T ≤ c2) = true := by simp; omega
  have HM := Lib.hid (fun W => quorum_Meet n k wr r a b W ha hb)
  rw [hm] at HM
  have HE := Lib.hid (fun W => ref_QuorumErr n k wr r W)
  have HC := Lib.hid (fun W => quorum_Check n k wr r W)
  rw [hq] at HE HC
  have HN := Lib.hid (fun W => quorum_Newer an ab bn bb W)
  have HR := Lib.hid (fun W => ref_Newer an ab bn bb W)
  obtain ⟨B, hB⟩ : ∃ B, newB an ab bn bb = B := ⟨_, rfl⟩
  rw [hB] at HN HR
  have hBB : (B != B) = false := by simp
  have hBX := Lib.hid (boxes_new w n k wr r an ab bn bb 23 26)
  have hB0 : Hid (Below w.heap.size w (((w.alloc (.cells #[.int .i64 n, .int .i64 k, .int .i64 wr, .int .i64 r] 23)).alloc (.cells #[.int .i64 an, .int .i64 ab] 26)).alloc (.cells #[.int .i64 bn, .int .i64 bb] 26))) := ((below_alloc w _).alloc (by simp) _).alloc (by simp; try omega) _
  clear hm hq hB hc hc2 hT ho1 ho2 ho3 hs ht hx hy
  go_enter Try.func3, Try.ntmps3
  go_wp2_with fail
  refine (HL.out _).mono ?_
  rintro e w1 ⟨rfl, hb1⟩
  have HB1 := Lib.hid (below_chain hB0.out hb1)
  have BX1 := Lib.hid ((hBX.out.below hb1).below (below_alloc w1 (.cells #[.int .i64 (n : Int), .int .i64 (k : Int), .int .i64 (x : Int), .int .i64 (y : Int)] 23)))
  have LB1 := Lib.hid (lbox_new w1 (n : Int) (k : Int) (x : Int) (y : Int) 23)
  have HB1a := Lib.hid (below_chain HB1.out (below_alloc w1 (.cells #[.int .i64 (n : Int), .int .i64 (k : Int), .int .i64 (x : Int), .int .i64 (y : Int)] 23)))
  obtain ⟨x0, x1, x2, x3, y0, y1, z0, z1⟩ := BX1.out
  clear hb1 hBX hB0 HL
  go_wp2_with fail
  refine (HM.out _).mono ?_
  rintro e w2 ⟨rfl, hb2⟩
  have HB2 := Lib.hid (below_chain HB1a.out hb2)
  have BX2 := Lib.hid (BX1.out.below hb2)
  have LB2 := Lib.hid (LB1.out.below hb2)
  clear x0 x1 x2 x3 y0 y1 z0 z1 hb2 HM BX1 LB1
  obtain ⟨x0, x1, x2, x3, y0, y1, z0, z1⟩ := BX2.out
  go_wp2_with fail
  refine (HE.out _).mono ?_
  rintro e w3 ⟨rfl, hb3⟩
  have HB3 := Lib.hid (below_chain HB2.out hb3)
  have BX3 := Lib.hid (BX2.out.below hb3)
  have LB3 := Lib.hid (LB2.out.below hb3)
  clear x0 x1 x2 x3 y0 y1 z0 z1 hb3 HE BX2 LB2
  obtain ⟨x0, x1, x2, x3, y0, y1, z0, z1⟩ := BX3.out
  go_wp2_with fail
  go_region_held3 (fun W' => W'.cell? ⟨w.heap.size, 0, none⟩ = some (.int .i64 n) ∧ W'.cell? ⟨w.heap.size, 1, none⟩ = some (.int .i64 k) ∧ W'.cell? ⟨w.heap.size, 2, none⟩ = some (.int .i64 wr) ∧ W'.cell? ⟨w.heap.size, 3, none⟩ = some (.int .i64 r) ∧ W'.cell? ⟨w.heap.size + 1, 0, none⟩ = some (.int .i64 an) ∧ W'.cell? ⟨w.heap.size + 1, 1, none⟩ = some (.int .i64 ab) ∧ W'.cell? ⟨w.heap.size + 1 + 1, 0, none⟩ = some (.int .i64 bn) ∧ W'.cell? ⟨w.heap.size + 1 + 1, 1, none⟩ = some (.int .i64 bb))
    (first | go_keep | (refine ⟨?_, ?_, ?_, ?_, ?_, ?_, ?_, ?_⟩ <;> first | exact below_keep hb7 (by go_keep) | exact below_keep hb6 (by go_keep) | exact below_keep hb5 (by go_keep)))
    (first | (go_at_call 18; refine (HC.out _).mono ?_; rintro e5 w5 ⟨rfl, hb5⟩) | (go_at_call 19; refine (HN.out _).mono ?_; rintro e6 w6 ⟨rfl, hb6⟩) | (go_at_call 20; refine (HR.out _).mono ?_; rintro e7 w7 ⟨rfl, hb7⟩) | fail)
  all_goals
    have b5 : Below w3.heap.size w3 w5 := below_chain (by repeat (first | (with_reducible exact Below.refl _ _) | (with_reducible apply below_drewN) | (with_reducible apply below_drew1))) hb5
    have b6 : Below w3.heap.size w3 w6 := below_chain (by repeat (first | exact b5 | (with_reducible apply below_drewN) | (with_reducible apply below_drew1))) hb6
    have b7 : Below w3.heap.size w3 w7 := below_chain (by repeat (first | exact b6 | (with_reducible apply below_drewN) | (with_reducible apply below_drew1))) hb7
    have BX7 := Lib.hid (BX3.out.below b7)
    have LB7 := Lib.hid (LB3.out.below b7)
    have HB7 := Lib.hid (below_chain HB3.out b7)
    clear x0 x1 x2 x3 y0 y1 z0 z1 hb5 hb6 hb7 b5 b6 b7
    obtain ⟨x0, x1, x2, x3, y0, y1, z0, z1⟩ := BX7.out
    obtain ⟨l0, l1, l2, l3⟩ := LB7.out
    go_wp2_with fail
    go_ret
    exact ⟨by simp, by repeat (first | exact HB7.out | apply below_drewN)⟩

set_option maxRecDepth 100000 in
set_option maxHeartbeats 8000000 in
theorem quorumSays_G3 (n k : Nat) (wr r : Int) (a b : Nat) (an ab bn bb : Int) (w : World) (ha : a < 65536) (hb : b < 65536) (h : 1 ≤ n) (h2 : n ≤ 10) (h3 : 1 ≤ k) (h4 : k ≤ n) (hq : qErr n k wr r = 0) (hm1 : a < 2 ^ n ∧ b < 2 ^ n) (hm2 : (ones16 a : Int) < wr) (hm : meetI n k wr r a b = (0, 9)) :
    Calls Try.prog 3 #[qV n k wr r, .int .u16 a, .int .u16 b, sV an ab, sV bn bb] w fun e w' => e = .returned (.bool true) ∧ Below w.heap.size w w' := by
  have d1 : decide ((n : Int) < 1) = false := decide_eq_false (by omega)
  have d2 : decide ((10 : Int) < n) = false := decide_eq_false (by omega)
  have d3 : decide ((k : Int) < 1) = false := decide_eq_false (by omega)
  have d4 : decide ((n : Int) < k) = false := decide_eq_false (by omega)
  have d5 : decide (n < k) = false := decide_eq_false (by omega)
  obtain ⟨s, hs⟩ : ∃ s, n + k = s := ⟨_, rfl⟩
  obtain ⟨t, ht⟩ : ∃ t, s % 2 = t := ⟨_, rfl⟩
  obtain ⟨x, hx⟩ : ∃ x, (n + k + 1) / 2 = x := ⟨_, rfl⟩
  obtain ⟨y, hy⟩ : ∃ y, (n + k) / 2 = y := ⟨_, rfl⟩
  have HL := Lib.hid (fun W => quorum_Least n k W (by omega) (by omega) (by omega) (by omega) x y hx hy)
  have es : (n : Int) + (k : Int) = (s : Int) := by omega
  have ex : (x : Int) + (y : Int) = (s : Int) := by omega
  have ey : (x : Int) - (y : Int) = (t : Int) := by omega
  have et : (s : Int) % 2 = (t : Int) := by omega
  have et2 : Int.tmod (s : Int) 2 = (t : Int) := by rw [Int.tmod_eq_emod_of_nonneg (by omega), et]
  have wS : IntKind.i64.wrap (s : Int) = (s : Int) := IntWalk.i64_in _ (by omega)
  have wT : IntKind.i64.wrap (t : Int) = (t : Int) := IntWalk.i64_in _ (by omega)
  have hs0 : ((s : Int) != (s : Int)) = false := by simp
  have ht0 : ((t : Int) != (t : Int)) = false := by simp
  have hn0 : ((n : Int) != (n : Int)) = false := by simp
  have hk0 : ((k : Int) != (k : Int)) = false := by simp
  obtain ⟨c2, hc2⟩ : ∃ c2, a ||| b = c2 := ⟨_, rfl⟩
  obtain ⟨c, hc⟩ : ∃ c, a &&& b = c := ⟨_, rfl⟩
  have hc2b : c2 < 65536 := by rw [← hc2]; exact Nat.or_lt_two_pow (n := 16) ha hb
  have hcb : c < 65536 := by rw [← hc]; exact Nat.lt_of_le_of_lt Nat.and_le_left ha
  have eor := u16_or_nat a b ha hb
  have eand := u16_and_nat a b ha hb
  rw [hc2] at eor
  rw [hc] at eand
  have wa : IntKind.i64.wrap (a : Int) = (a : Int) := IntWalk.i64_in _ (by omega)
  have wb : IntKind.i64.wrap (b : Int) = (b : Int) := IntWalk.i64_in _ (by omega)
  have wc : IntKind.i64.wrap (c : Int) = (c : Int) := IntWalk.i64_in _ (by omega)
  have wc2 : IntKind.i64.wrap (c2 : Int) = (c2 : Int) := IntWalk.i64_in _ (by omega)
  obtain ⟨T, hT⟩ : ∃ T, 2 ^ n = T := ⟨_, rfl⟩
  have hT1 : T ≤ 1024 := by rw [← hT]; exact Nat.pow_le_pow_right (n := 2) (by omega) (show n ≤ 10 by omega)
  have eT : IntKind.i64.wrap ((2 : Int) ^ n) = (T : Int) := by
    have : ((2 : Int) ^ n) = (T : Int) := by rw [← hT, Int.natCast_pow]; rfl
    rw [this]; exact IntWalk.i64_in _ (by omega)
  rw [hT] at hm1
  have HO1 := Lib.hid (fun W => ref_Ones a W ha)
  have HO2 := Lib.hid (fun W => ref_Ones b W hb)
  have HO3 := Lib.hid (fun W => ref_Ones c W hcb)
  obtain ⟨o1, ho1⟩ : ∃ o1, ones16 a = o1 := ⟨_, rfl⟩
  obtain ⟨o2, ho2⟩ : ∃ o2, ones16 b = o2 := ⟨_, rfl⟩
  obtain ⟨o3, ho3⟩ : ∃ o3, ones16 c = o3 := ⟨_, rfl⟩
  rw [ho1] at HO1
  rw [ho2] at HO2
  rw [ho3] at HO3
  have HQ1 := Lib.hid (fun W => ones_q (HO1.out W))
  have HQ2 := Lib.hid (fun W => ones_q (HO2.out W))
  have hlt2 : c2 < T := by rw [← hc2, ← hT]; rw [← hT] at hm1; exact Nat.or_lt_two_pow hm1.1 hm1.2
  have f1 : decide ((T : Int) ≤ (c2 : Int)) = false := by simp; omega
  have f1b : decide (T ≤ c2) = false := by simp; omega
  rw [ho1] at hm2
  have f3 : decide ((o1 : Int) < wr) = true := decide_eq_true hm2
  have HM := Lib.hid (fun W => quorum_Meet n k wr r a b W ha hb)
  rw [hm] at HM
  have HE := Lib.hid (fun W => ref_QuorumErr n k wr r W)
  have HC := Lib.hid (fun W => quorum_Check n k wr r W)
  rw [hq] at HE HC
  have HN := Lib.hid (fun W => quorum_Newer an ab bn bb W)
  have HR := Lib.hid (fun W => ref_Newer an ab bn bb W)
  obtain ⟨B, hB⟩ : ∃ B, newB an ab bn bb = B := ⟨_, rfl⟩
  rw [hB] at HN HR
  have hBB : (B != B) = false := by simp
  have hBX := Lib.hid (boxes_new w n k wr r an ab bn bb 23 26)
  have hB0 : Hid (Below w.heap.size w (((w.alloc (.cells #[.int .i64 n, .int .i64 k, .int .i64 wr, .int .i64 r] 23)).alloc (.cells #[.int .i64 an, .int .i64 ab] 26)).alloc (.cells #[.int .i64 bn, .int .i64 bb] 26))) := ((below_alloc w _).alloc (by simp) _).alloc (by simp; try omega) _
  clear hm hq hB hc hc2 hT ho1 ho2 ho3 hs ht hx hy
  go_enter Try.func3, Try.ntmps3
  go_wp2_with fail
  refine (HL.out _).mono ?_
  rintro e w1 ⟨rfl, hb1⟩
  have HB1 := Lib.hid (below_chain hB0.out hb1)
  have BX1 := Lib.hid ((hBX.out.below hb1).below (below_alloc w1 (.cells #[.int .i64 (n : Int), .int .i64 (k : Int), .int .i64 (x : Int), .int .i64 (y : Int)] 23)))
  have LB1 := Lib.hid (lbox_new w1 (n : Int) (k : Int) (x : Int) (y : Int) 23)
  have HB1a := Lib.hid (below_chain HB1.out (below_alloc w1 (.cells #[.int .i64 (n : Int), .int .i64 (k : Int), .int .i64 (x : Int), .int .i64 (y : Int)] 23)))
  obtain ⟨x0, x1, x2, x3, y0, y1, z0, z1⟩ := BX1.out
  clear hb1 hBX hB0 HL
  go_wp2_with fail
  refine (HM.out _).mono ?_
  rintro e w2 ⟨rfl, hb2⟩
  have HB2 := Lib.hid (below_chain HB1a.out hb2)
  have BX2 := Lib.hid (BX1.out.below hb2)
  have LB2 := Lib.hid (LB1.out.below hb2)
  clear x0 x1 x2 x3 y0 y1 z0 z1 hb2 HM BX1 LB1
  obtain ⟨x0, x1, x2, x3, y0, y1, z0, z1⟩ := BX2.out
  go_wp2_with fail
  refine (HE.out _).mono ?_
  rintro e w3 ⟨rfl, hb3⟩
  have HB3 := Lib.hid (below_chain HB2.out hb3)
  have BX3 := Lib.hid (BX2.out.below hb3)
  have LB3 := Lib.hid (LB2.out.below hb3)
  clear x0 x1 x2 x3 y0 y1 z0 z1 hb3 HE BX2 LB2
  obtain ⟨x0, x1, x2, x3, y0, y1, z0, z1⟩ := BX3.out
  go_wp2_with fail
  go_region_held3 (fun W' => W'.cell? ⟨w.heap.size, 0, none⟩ = some (.int .i64 n) ∧ W'.cell? ⟨w.heap.size, 1, none⟩ = some (.int .i64 k) ∧ W'.cell? ⟨w.heap.size, 2, none⟩ = some (.int .i64 wr) ∧ W'.cell? ⟨w.heap.size, 3, none⟩ = some (.int .i64 r) ∧ W'.cell? ⟨w.heap.size + 1, 0, none⟩ = some (.int .i64 an) ∧ W'.cell? ⟨w.heap.size + 1, 1, none⟩ = some (.int .i64 ab) ∧ W'.cell? ⟨w.heap.size + 1 + 1, 0, none⟩ = some (.int .i64 bn) ∧ W'.cell? ⟨w.heap.size + 1 + 1, 1, none⟩ = some (.int .i64 bb))
    (first | go_keep | (refine ⟨?_, ?_, ?_, ?_, ?_, ?_, ?_, ?_⟩ <;> first | exact below_keep hb7 (by go_keep) | exact below_keep hb6 (by go_keep) | exact below_keep hb5 (by go_keep)))
    (first | (go_at_call 18; refine (HC.out _).mono ?_; rintro e5 w5 ⟨rfl, hb5⟩) | (go_at_call 19; refine (HN.out _).mono ?_; rintro e6 w6 ⟨rfl, hb6⟩) | (go_at_call 20; refine (HR.out _).mono ?_; rintro e7 w7 ⟨rfl, hb7⟩) | fail)
  all_goals
    have b5 : Below w3.heap.size w3 w5 := below_chain (by repeat (first | (with_reducible exact Below.refl _ _) | (with_reducible apply below_drewN) | (with_reducible apply below_drew1))) hb5
    have b6 : Below w3.heap.size w3 w6 := below_chain (by repeat (first | exact b5 | (with_reducible apply below_drewN) | (with_reducible apply below_drew1))) hb6
    have b7 : Below w3.heap.size w3 w7 := below_chain (by repeat (first | exact b6 | (with_reducible apply below_drewN) | (with_reducible apply below_drew1))) hb7
    have BX7 := Lib.hid (BX3.out.below b7)
    have LB7 := Lib.hid (LB3.out.below b7)
    have HB7 := Lib.hid (below_chain HB3.out b7)
    clear x0 x1 x2 x3 y0 y1 z0 z1 hb5 hb6 hb7 b5 b6 b7
    obtain ⟨x0, x1, x2, x3, y0, y1, z0, z1⟩ := BX7.out
    obtain ⟨l0, l1, l2, l3⟩ := LB7.out
    go_wp2_with fail
    go_quiet ((go_at_call 21; (first | (with_reducible exact quiet_on (fun W' => HQ1.out W')) | (with_reducible exact quiet_at (fun W' => HQ1.out W')) | (with_reducible exact quiet_on (fun W' => HQ2.out W')) | (with_reducible exact quiet_at (fun W' => HQ2.out W')))))
    go_wp2_with fail
    go_ret
    exact ⟨by simp, by repeat (first | exact HB7.out | apply below_drewN)⟩

set_option maxRecDepth 100000 in
set_option maxHeartbeats 8000000 in
theorem quorumSays_G4 (n k : Nat) (wr r : Int) (a b : Nat) (an ab bn bb : Int) (w : World) (ha : a < 65536) (hb : b < 65536) (h : 1 ≤ n) (h2 : n ≤ 10) (h3 : 1 ≤ k) (h4 : k ≤ n) (hq : qErr n k wr r = 0) (hm1 : a < 2 ^ n ∧ b < 2 ^ n) (hm2 : wr ≤ (ones16 a : Int)) (hm3 : (ones16 b : Int) < r) (hm : meetI n k wr r a b = (0, 9)) :
    Calls Try.prog 3 #[qV n k wr r, .int .u16 a, .int .u16 b, sV an ab, sV bn bb] w fun e w' => e = .returned (.bool true) ∧ Below w.heap.size w w' := by
  have d1 : decide ((n : Int) < 1) = false := decide_eq_false (by omega)
  have d2 : decide ((10 : Int) < n) = false := decide_eq_false (by omega)
  have d3 : decide ((k : Int) < 1) = false := decide_eq_false (by omega)
  have d4 : decide ((n : Int) < k) = false := decide_eq_false (by omega)
  have d5 : decide (n < k) = false := decide_eq_false (by omega)
  obtain ⟨s, hs⟩ : ∃ s, n + k = s := ⟨_, rfl⟩
  obtain ⟨t, ht⟩ : ∃ t, s % 2 = t := ⟨_, rfl⟩
  obtain ⟨x, hx⟩ : ∃ x, (n + k + 1) / 2 = x := ⟨_, rfl⟩
  obtain ⟨y, hy⟩ : ∃ y, (n + k) / 2 = y := ⟨_, rfl⟩
  have HL := Lib.hid (fun W => quorum_Least n k W (by omega) (by omega) (by omega) (by omega) x y hx hy)
  have es : (n : Int) + (k : Int) = (s : Int) := by omega
  have ex : (x : Int) + (y : Int) = (s : Int) := by omega
  have ey : (x : Int) - (y : Int) = (t : Int) := by omega
  have et : (s : Int) % 2 = (t : Int) := by omega
  have et2 : Int.tmod (s : Int) 2 = (t : Int) := by rw [Int.tmod_eq_emod_of_nonneg (by omega), et]
  have wS : IntKind.i64.wrap (s : Int) = (s : Int) := IntWalk.i64_in _ (by omega)
  have wT : IntKind.i64.wrap (t : Int) = (t : Int) := IntWalk.i64_in _ (by omega)
  have hs0 : ((s : Int) != (s : Int)) = false := by simp
  have ht0 : ((t : Int) != (t : Int)) = false := by simp
  have hn0 : ((n : Int) != (n : Int)) = false := by simp
  have hk0 : ((k : Int) != (k : Int)) = false := by simp
  obtain ⟨c2, hc2⟩ : ∃ c2, a ||| b = c2 := ⟨_, rfl⟩
  obtain ⟨c, hc⟩ : ∃ c, a &&& b = c := ⟨_, rfl⟩
  have hc2b : c2 < 65536 := by rw [← hc2]; exact Nat.or_lt_two_pow (n := 16) ha hb
  have hcb : c < 65536 := by rw [← hc]; exact Nat.lt_of_le_of_lt Nat.and_le_left ha
  have eor := u16_or_nat a b ha hb
  have eand := u16_and_nat a b ha hb
  rw [hc2] at eor
  rw [hc] at eand
  have wa : IntKind.i64.wrap (a : Int) = (a : Int) := IntWalk.i64_in _ (by omega)
  have wb : IntKind.i64.wrap (b : Int) = (b : Int) := IntWalk.i64_in _ (by omega)
  have wc : IntKind.i64.wrap (c : Int) = (c : Int) := IntWalk.i64_in _ (by omega)
  have wc2 : IntKind.i64.wrap (c2 : Int) = (c2 : Int) := IntWalk.i64_in _ (by omega)
  obtain ⟨T, hT⟩ : ∃ T, 2 ^ n = T := ⟨_, rfl⟩
  have hT1 : T ≤ 1024 := by rw [← hT]; exact Nat.pow_le_pow_right (n := 2) (by omega) (show n ≤ 10 by omega)
  have eT : IntKind.i64.wrap ((2 : Int) ^ n) = (T : Int) := by
    have : ((2 : Int) ^ n) = (T : Int) := by rw [← hT, Int.natCast_pow]; rfl
    rw [this]; exact IntWalk.i64_in _ (by omega)
  rw [hT] at hm1
  have HO1 := Lib.hid (fun W => ref_Ones a W ha)
  have HO2 := Lib.hid (fun W => ref_Ones b W hb)
  have HO3 := Lib.hid (fun W => ref_Ones c W hcb)
  obtain ⟨o1, ho1⟩ : ∃ o1, ones16 a = o1 := ⟨_, rfl⟩
  obtain ⟨o2, ho2⟩ : ∃ o2, ones16 b = o2 := ⟨_, rfl⟩
  obtain ⟨o3, ho3⟩ : ∃ o3, ones16 c = o3 := ⟨_, rfl⟩
  rw [ho1] at HO1
  rw [ho2] at HO2
  rw [ho3] at HO3
  have HQ1 := Lib.hid (fun W => ones_q (HO1.out W))
  have HQ2 := Lib.hid (fun W => ones_q (HO2.out W))
  have hlt2 : c2 < T := by rw [← hc2, ← hT]; rw [← hT] at hm1; exact Nat.or_lt_two_pow hm1.1 hm1.2
  have f1 : decide ((T : Int) ≤ (c2 : Int)) = false := by simp; omega
  have f1b : decide (T ≤ c2) = false := by simp; omega
  rw [ho1] at hm2
  rw [ho2] at hm3
  have f3 : decide ((o1 : Int) < wr) = false := decide_eq_false (by omega)
  have f4 : decide ((o2 : Int) < r) = true := decide_eq_true hm3
  have HM := Lib.hid (fun W => quorum_Meet n k wr r a b W ha hb)
  rw [hm] at HM
  have HE := Lib.hid (fun W => ref_QuorumErr n k wr r W)
  have HC := Lib.hid (fun W => quorum_Check n k wr r W)
  rw [hq] at HE HC
  have HN := Lib.hid (fun W => quorum_Newer an ab bn bb W)
  have HR := Lib.hid (fun W => ref_Newer an ab bn bb W)
  obtain ⟨B, hB⟩ : ∃ B, newB an ab bn bb = B := ⟨_, rfl⟩
  rw [hB] at HN HR
  have hBB : (B != B) = false := by simp
  have hBX := Lib.hid (boxes_new w n k wr r an ab bn bb 23 26)
  have hB0 : Hid (Below w.heap.size w (((w.alloc (.cells #[.int .i64 n, .int .i64 k, .int .i64 wr, .int .i64 r] 23)).alloc (.cells #[.int .i64 an, .int .i64 ab] 26)).alloc (.cells #[.int .i64 bn, .int .i64 bb] 26))) := ((below_alloc w _).alloc (by simp) _).alloc (by simp; try omega) _
  clear hm hq hB hc hc2 hT ho1 ho2 ho3 hs ht hx hy
  go_enter Try.func3, Try.ntmps3
  go_wp2_with fail
  refine (HL.out _).mono ?_
  rintro e w1 ⟨rfl, hb1⟩
  have HB1 := Lib.hid (below_chain hB0.out hb1)
  have BX1 := Lib.hid ((hBX.out.below hb1).below (below_alloc w1 (.cells #[.int .i64 (n : Int), .int .i64 (k : Int), .int .i64 (x : Int), .int .i64 (y : Int)] 23)))
  have LB1 := Lib.hid (lbox_new w1 (n : Int) (k : Int) (x : Int) (y : Int) 23)
  have HB1a := Lib.hid (below_chain HB1.out (below_alloc w1 (.cells #[.int .i64 (n : Int), .int .i64 (k : Int), .int .i64 (x : Int), .int .i64 (y : Int)] 23)))
  obtain ⟨x0, x1, x2, x3, y0, y1, z0, z1⟩ := BX1.out
  clear hb1 hBX hB0 HL
  go_wp2_with fail
  refine (HM.out _).mono ?_
  rintro e w2 ⟨rfl, hb2⟩
  have HB2 := Lib.hid (below_chain HB1a.out hb2)
  have BX2 := Lib.hid (BX1.out.below hb2)
  have LB2 := Lib.hid (LB1.out.below hb2)
  clear x0 x1 x2 x3 y0 y1 z0 z1 hb2 HM BX1 LB1
  obtain ⟨x0, x1, x2, x3, y0, y1, z0, z1⟩ := BX2.out
  go_wp2_with fail
  refine (HE.out _).mono ?_
  rintro e w3 ⟨rfl, hb3⟩
  have HB3 := Lib.hid (below_chain HB2.out hb3)
  have BX3 := Lib.hid (BX2.out.below hb3)
  have LB3 := Lib.hid (LB2.out.below hb3)
  clear x0 x1 x2 x3 y0 y1 z0 z1 hb3 HE BX2 LB2
  obtain ⟨x0, x1, x2, x3, y0, y1, z0, z1⟩ := BX3.out
  go_wp2_with fail
  go_region_held3 (fun W' => W'.cell? ⟨w.heap.size, 0, none⟩ = some (.int .i64 n) ∧ W'.cell? ⟨w.heap.size, 1, none⟩ = some (.int .i64 k) ∧ W'.cell? ⟨w.heap.size, 2, none⟩ = some (.int .i64 wr) ∧ W'.cell? ⟨w.heap.size, 3, none⟩ = some (.int .i64 r) ∧ W'.cell? ⟨w.heap.size + 1, 0, none⟩ = some (.int .i64 an) ∧ W'.cell? ⟨w.heap.size + 1, 1, none⟩ = some (.int .i64 ab) ∧ W'.cell? ⟨w.heap.size + 1 + 1, 0, none⟩ = some (.int .i64 bn) ∧ W'.cell? ⟨w.heap.size + 1 + 1, 1, none⟩ = some (.int .i64 bb))
    (first | go_keep | (refine ⟨?_, ?_, ?_, ?_, ?_, ?_, ?_, ?_⟩ <;> first | exact below_keep hb7 (by go_keep) | exact below_keep hb6 (by go_keep) | exact below_keep hb5 (by go_keep)))
    (first | (go_at_call 18; refine (HC.out _).mono ?_; rintro e5 w5 ⟨rfl, hb5⟩) | (go_at_call 19; refine (HN.out _).mono ?_; rintro e6 w6 ⟨rfl, hb6⟩) | (go_at_call 20; refine (HR.out _).mono ?_; rintro e7 w7 ⟨rfl, hb7⟩) | fail)
  all_goals
    have b5 : Below w3.heap.size w3 w5 := below_chain (by repeat (first | (with_reducible exact Below.refl _ _) | (with_reducible apply below_drewN) | (with_reducible apply below_drew1))) hb5
    have b6 : Below w3.heap.size w3 w6 := below_chain (by repeat (first | exact b5 | (with_reducible apply below_drewN) | (with_reducible apply below_drew1))) hb6
    have b7 : Below w3.heap.size w3 w7 := below_chain (by repeat (first | exact b6 | (with_reducible apply below_drewN) | (with_reducible apply below_drew1))) hb7
    have BX7 := Lib.hid (BX3.out.below b7)
    have LB7 := Lib.hid (LB3.out.below b7)
    have HB7 := Lib.hid (below_chain HB3.out b7)
    clear x0 x1 x2 x3 y0 y1 z0 z1 hb5 hb6 hb7 b5 b6 b7
    obtain ⟨x0, x1, x2, x3, y0, y1, z0, z1⟩ := BX7.out
    obtain ⟨l0, l1, l2, l3⟩ := LB7.out
    go_wp2_with fail
    go_quiet ((go_at_call 21; (first | (with_reducible exact quiet_on (fun W' => HQ1.out W')) | (with_reducible exact quiet_at (fun W' => HQ1.out W')) | (with_reducible exact quiet_on (fun W' => HQ2.out W')) | (with_reducible exact quiet_at (fun W' => HQ2.out W')))))
    go_wp2_with fail
    go_ret
    exact ⟨by simp, by repeat (first | exact HB7.out | apply below_drewN)⟩

set_option maxRecDepth 100000 in
set_option maxHeartbeats 8000000 in
theorem quorumSays_G5 (n k : Nat) (wr r : Int) (a b : Nat) (an ab bn bb : Int) (w : World) (ha : a < 65536) (hb : b < 65536) (h : 1 ≤ n) (h2 : n ≤ 10) (h3 : 1 ≤ k) (h4 : k ≤ n) (hq : qErr n k wr r = 0) (hm1 : a < 2 ^ n ∧ b < 2 ^ n) (hm2 : wr ≤ (ones16 a : Int)) (hm3 : r ≤ (ones16 b : Int)) (hm : meetI n k wr r a b = (((ones16 (a &&& b) : Nat) : Int), 0)) :
    Calls Try.prog 3 #[qV n k wr r, .int .u16 a, .int .u16 b, sV an ab, sV bn bb] w fun e w' => e = .returned (.bool true) ∧ Below w.heap.size w w' := by
  have hm9 := hm
  have d1 : decide ((n : Int) < 1) = false := decide_eq_false (by omega)
  have d2 : decide ((10 : Int) < n) = false := decide_eq_false (by omega)
  have d3 : decide ((k : Int) < 1) = false := decide_eq_false (by omega)
  have d4 : decide ((n : Int) < k) = false := decide_eq_false (by omega)
  have d5 : decide (n < k) = false := decide_eq_false (by omega)
  obtain ⟨s, hs⟩ : ∃ s, n + k = s := ⟨_, rfl⟩
  obtain ⟨t, ht⟩ : ∃ t, s % 2 = t := ⟨_, rfl⟩
  obtain ⟨x, hx⟩ : ∃ x, (n + k + 1) / 2 = x := ⟨_, rfl⟩
  obtain ⟨y, hy⟩ : ∃ y, (n + k) / 2 = y := ⟨_, rfl⟩
  have HL := Lib.hid (fun W => quorum_Least n k W (by omega) (by omega) (by omega) (by omega) x y hx hy)
  have es : (n : Int) + (k : Int) = (s : Int) := by omega
  have ex : (x : Int) + (y : Int) = (s : Int) := by omega
  have ey : (x : Int) - (y : Int) = (t : Int) := by omega
  have et : (s : Int) % 2 = (t : Int) := by omega
  have et2 : Int.tmod (s : Int) 2 = (t : Int) := by rw [Int.tmod_eq_emod_of_nonneg (by omega), et]
  have wS : IntKind.i64.wrap (s : Int) = (s : Int) := IntWalk.i64_in _ (by omega)
  have wT : IntKind.i64.wrap (t : Int) = (t : Int) := IntWalk.i64_in _ (by omega)
  have hs0 : ((s : Int) != (s : Int)) = false := by simp
  have ht0 : ((t : Int) != (t : Int)) = false := by simp
  have hn0 : ((n : Int) != (n : Int)) = false := by simp
  have hk0 : ((k : Int) != (k : Int)) = false := by simp
  obtain ⟨c2, hc2⟩ : ∃ c2, a ||| b = c2 := ⟨_, rfl⟩
  obtain ⟨c, hc⟩ : ∃ c, a &&& b = c := ⟨_, rfl⟩
  have hc2b : c2 < 65536 := by rw [← hc2]; exact Nat.or_lt_two_pow (n := 16) ha hb
  have hcb : c < 65536 := by rw [← hc]; exact Nat.lt_of_le_of_lt Nat.and_le_left ha
  have eor := u16_or_nat a b ha hb
  have eand := u16_and_nat a b ha hb
  rw [hc2] at eor
  rw [hc] at eand
  have wa : IntKind.i64.wrap (a : Int) = (a : Int) := IntWalk.i64_in _ (by omega)
  have wb : IntKind.i64.wrap (b : Int) = (b : Int) := IntWalk.i64_in _ (by omega)
  have wc : IntKind.i64.wrap (c : Int) = (c : Int) := IntWalk.i64_in _ (by omega)
  have wc2 : IntKind.i64.wrap (c2 : Int) = (c2 : Int) := IntWalk.i64_in _ (by omega)
  obtain ⟨T, hT⟩ : ∃ T, 2 ^ n = T := ⟨_, rfl⟩
  have hT1 : T ≤ 1024 := by rw [← hT]; exact Nat.pow_le_pow_right (n := 2) (by omega) (show n ≤ 10 by omega)
  have eT : IntKind.i64.wrap ((2 : Int) ^ n) = (T : Int) := by
    have : ((2 : Int) ^ n) = (T : Int) := by rw [← hT, Int.natCast_pow]; rfl
    rw [this]; exact IntWalk.i64_in _ (by omega)
  rw [hT] at hm1
  have HO1 := Lib.hid (fun W => ref_Ones a W ha)
  have HO2 := Lib.hid (fun W => ref_Ones b W hb)
  have HO3 := Lib.hid (fun W => ref_Ones c W hcb)
  obtain ⟨o1, ho1⟩ : ∃ o1, ones16 a = o1 := ⟨_, rfl⟩
  obtain ⟨o2, ho2⟩ : ∃ o2, ones16 b = o2 := ⟨_, rfl⟩
  obtain ⟨o3, ho3⟩ : ∃ o3, ones16 c = o3 := ⟨_, rfl⟩
  rw [ho1] at HO1
  rw [ho2] at HO2
  rw [ho3] at HO3
  have HQ1 := Lib.hid (fun W => ones_q (HO1.out W))
  have HQ2 := Lib.hid (fun W => ones_q (HO2.out W))
  have hlt2 : c2 < T := by rw [← hc2, ← hT]; rw [← hT] at hm1; exact Nat.or_lt_two_pow hm1.1 hm1.2
  have f1 : decide ((T : Int) ≤ (c2 : Int)) = false := by simp; omega
  have f1b : decide (T ≤ c2) = false := by simp; omega
  rw [ho1] at hm2
  rw [ho2] at hm3
  have f3 : decide ((o1 : Int) < wr) = false := decide_eq_false (by omega)
  have f4 : decide ((o2 : Int) < r) = false := decide_eq_false (by omega)
  rw [hc, ho3] at hm
  have f5 : ((o3 : Int) == (o3 : Int)) = true := by simp
  clear hm9
  have HM := Lib.hid (fun W => quorum_Meet n k wr r a b W ha hb)
  rw [hm] at HM
  have HE := Lib.hid (fun W => ref_QuorumErr n k wr r W)
  have HC := Lib.hid (fun W => quorum_Check n k wr r W)
  rw [hq] at HE HC
  have HN := Lib.hid (fun W => quorum_Newer an ab bn bb W)
  have HR := Lib.hid (fun W => ref_Newer an ab bn bb W)
  obtain ⟨B, hB⟩ : ∃ B, newB an ab bn bb = B := ⟨_, rfl⟩
  rw [hB] at HN HR
  have hBB : (B != B) = false := by simp
  have hBX := Lib.hid (boxes_new w n k wr r an ab bn bb 23 26)
  have hB0 : Hid (Below w.heap.size w (((w.alloc (.cells #[.int .i64 n, .int .i64 k, .int .i64 wr, .int .i64 r] 23)).alloc (.cells #[.int .i64 an, .int .i64 ab] 26)).alloc (.cells #[.int .i64 bn, .int .i64 bb] 26))) := ((below_alloc w _).alloc (by simp) _).alloc (by simp; try omega) _
  clear hm hq hB hc hc2 hT ho1 ho2 ho3 hs ht hx hy
  go_enter Try.func3, Try.ntmps3
  go_wp2_with fail
  refine (HL.out _).mono ?_
  rintro e w1 ⟨rfl, hb1⟩
  have HB1 := Lib.hid (below_chain hB0.out hb1)
  have BX1 := Lib.hid ((hBX.out.below hb1).below (below_alloc w1 (.cells #[.int .i64 (n : Int), .int .i64 (k : Int), .int .i64 (x : Int), .int .i64 (y : Int)] 23)))
  have LB1 := Lib.hid (lbox_new w1 (n : Int) (k : Int) (x : Int) (y : Int) 23)
  have HB1a := Lib.hid (below_chain HB1.out (below_alloc w1 (.cells #[.int .i64 (n : Int), .int .i64 (k : Int), .int .i64 (x : Int), .int .i64 (y : Int)] 23)))
  obtain ⟨x0, x1, x2, x3, y0, y1, z0, z1⟩ := BX1.out
  clear hb1 hBX hB0 HL
  go_wp2_with fail
  refine (HM.out _).mono ?_
  rintro e w2 ⟨rfl, hb2⟩
  have HB2 := Lib.hid (below_chain HB1a.out hb2)
  have BX2 := Lib.hid (BX1.out.below hb2)
  have LB2 := Lib.hid (LB1.out.below hb2)
  clear x0 x1 x2 x3 y0 y1 z0 z1 hb2 HM BX1 LB1
  obtain ⟨x0, x1, x2, x3, y0, y1, z0, z1⟩ := BX2.out
  go_wp2_with fail
  refine (HE.out _).mono ?_
  rintro e w3 ⟨rfl, hb3⟩
  have HB3 := Lib.hid (below_chain HB2.out hb3)
  have BX3 := Lib.hid (BX2.out.below hb3)
  have LB3 := Lib.hid (LB2.out.below hb3)
  clear x0 x1 x2 x3 y0 y1 z0 z1 hb3 HE BX2 LB2
  obtain ⟨x0, x1, x2, x3, y0, y1, z0, z1⟩ := BX3.out
  go_wp2_with fail
  go_region_held3 (fun W' => W'.cell? ⟨w.heap.size, 0, none⟩ = some (.int .i64 n) ∧ W'.cell? ⟨w.heap.size, 1, none⟩ = some (.int .i64 k) ∧ W'.cell? ⟨w.heap.size, 2, none⟩ = some (.int .i64 wr) ∧ W'.cell? ⟨w.heap.size, 3, none⟩ = some (.int .i64 r) ∧ W'.cell? ⟨w.heap.size + 1, 0, none⟩ = some (.int .i64 an) ∧ W'.cell? ⟨w.heap.size + 1, 1, none⟩ = some (.int .i64 ab) ∧ W'.cell? ⟨w.heap.size + 1 + 1, 0, none⟩ = some (.int .i64 bn) ∧ W'.cell? ⟨w.heap.size + 1 + 1, 1, none⟩ = some (.int .i64 bb))
    (first | go_keep | (refine ⟨?_, ?_, ?_, ?_, ?_, ?_, ?_, ?_⟩ <;> first | exact below_keep hb7 (by go_keep) | exact below_keep hb6 (by go_keep) | exact below_keep hb5 (by go_keep)))
    (first | (go_at_call 18; refine (HC.out _).mono ?_; rintro e5 w5 ⟨rfl, hb5⟩) | (go_at_call 19; refine (HN.out _).mono ?_; rintro e6 w6 ⟨rfl, hb6⟩) | (go_at_call 20; refine (HR.out _).mono ?_; rintro e7 w7 ⟨rfl, hb7⟩) | fail)
  all_goals
    have b5 : Below w3.heap.size w3 w5 := below_chain (by repeat (first | (with_reducible exact Below.refl _ _) | (with_reducible apply below_drewN) | (with_reducible apply below_drew1))) hb5
    have b6 : Below w3.heap.size w3 w6 := below_chain (by repeat (first | exact b5 | (with_reducible apply below_drewN) | (with_reducible apply below_drew1))) hb6
    have b7 : Below w3.heap.size w3 w7 := below_chain (by repeat (first | exact b6 | (with_reducible apply below_drewN) | (with_reducible apply below_drew1))) hb7
    have BX7 := Lib.hid (BX3.out.below b7)
    have LB7 := Lib.hid (LB3.out.below b7)
    have HB7 := Lib.hid (below_chain HB3.out b7)
    clear x0 x1 x2 x3 y0 y1 z0 z1 hb5 hb6 hb7 b5 b6 b7
    obtain ⟨x0, x1, x2, x3, y0, y1, z0, z1⟩ := BX7.out
    obtain ⟨l0, l1, l2, l3⟩ := LB7.out
    go_wp2_with fail
    go_quiet ((go_at_call 21; (first | (with_reducible exact quiet_on (fun W' => HQ1.out W')) | (with_reducible exact quiet_at (fun W' => HQ1.out W')) | (with_reducible exact quiet_on (fun W' => HQ2.out W')) | (with_reducible exact quiet_at (fun W' => HQ2.out W')))))
    go_wp2_with (go_at_call 21; refine (HO3.out _).mono ?_; rintro e9 w' ⟨rfl, rfl⟩)
    go_ret
    exact ⟨by simp, by repeat (first | exact HB7.out | apply below_drewN)⟩

theorem quorumSays_walk (n k wr r : Int) (a b : Int) (an ab bn bb : Int) (w : World) (_ : (Lit.int .i64 n).wf = true) (_ : (Lit.int .i64 k).wf = true) (_ : (Lit.int .i64 wr).wf = true) (_ : (Lit.int .i64 r).wf = true) (ha : (Lit.int .u16 a).wf = true) (hb : (Lit.int .u16 b).wf = true)
    (_ : (Lit.int .i64 an).wf = true) (_ : (Lit.int .i64 ab).wf = true) (_ : (Lit.int .i64 bn).wf = true) (_ : (Lit.int .i64 bb).wf = true) :
    Calls Try.prog 3 #[qV n k wr r, .int .u16 a, .int .u16 b, sV an ab, sV bn bb] w fun e w' => e = .returned (.bool true) ∧ Below w.heap.size w w' := by
  have ua : 0 ≤ a ∧ a ≤ 65535 := by simpa [Lit.wf, IntKind.min, IntKind.max, IntKind.signed, IntKind.bits] using ha
  have ub : 0 ≤ b ∧ b ≤ 65535 := by simpa [Lit.wf, IntKind.min, IntKind.max, IntKind.signed, IntKind.bits] using hb
  obtain ⟨A, rfl⟩ : ∃ A : Nat, a = A := ⟨a.toNat, by omega⟩
  obtain ⟨B, rfl⟩ : ∃ B : Nat, b = B := ⟨b.toNat, by omega⟩
  have hA : A < 65536 := by omega
  have hB : B < 65536 := by omega
  have okc : ∀ E, 1 ≤ n → n ≤ 10 → inB k n = true → qErr n k wr r = E → (E = 1 ∨ E = 9) → Calls Try.prog 3 #[qV n k wr r, .int .u16 (A : Int), .int .u16 (B : Int), sV an ab, sV bn bb] w fun e w' => e = .returned (.bool true) ∧ Below w.heap.size w w' := by
    intro E h1 h2 h3 h4 h5
    have h6 := inB_true h3
    obtain ⟨N, rfl⟩ : ∃ N : Nat, n = N := ⟨n.toNat, by omega⟩
    obtain ⟨K, rfl⟩ : ∃ K : Nat, k = K := ⟨k.toNat, by omega⟩
    rcases h5 with h5 | h5
    · exact quorumSays_D N K wr r A B an ab bn bb w hA hB (by omega) (by omega) (by omega) (by omega) (h4.trans h5)
    · exact quorumSays_F N K wr r A B an ab bn bb w hA hB (by omega) (by omega) (by omega) (by omega) (h4.trans h5)
  rcases q_cases n k wr r with ⟨a1, a0⟩ | ⟨a1, a2, a0⟩ | ⟨a1, a2, a3, a0⟩ | ⟨a1, a2, a3, a4, a0⟩ | ⟨a1, a2, a3, a4, a5, a0⟩ | ⟨a1, a2, a3, a4, a5, a6, a0⟩ | ⟨a1, a2, a3, a4, a5, a6, a0⟩
  · exact quorumSays_A n k wr r A B an ab bn bb w hA hB a1 a0
  · exact quorumSays_B n k wr r A B an ab bn bb w hA hB a2 a0
  · rcases inB_false a3 with h | h
    · exact quorumSays_C1 n k wr r A B an ab bn bb w hA hB a1 a2 h a0
    · by_cases h1 : k < 1
      · exact quorumSays_C1 n k wr r A B an ab bn bb w hA hB a1 a2 h1 a0
      · exact quorumSays_C2 n k wr r A B an ab bn bb w hA hB a1 a2 (by omega) h a0
  · exact okc 1 a1 a2 a3 a0 (.inl rfl)
  · exact okc 1 a1 a2 a3 a0 (.inl rfl)
  · exact okc 9 a1 a2 a3 a0 (.inr rfl)
  · have h6 := inB_true a3
    obtain ⟨N, rfl⟩ : ∃ N : Nat, n = N := ⟨n.toNat, by omega⟩
    obtain ⟨K, rfl⟩ : ∃ K : Nat, k = K := ⟨k.toNat, by omega⟩
    have hNt : ((N : Int)).toNat = N := by omega
    have hmc := meet_cases (N : Int) K wr r A B a0
    rw [hNt] at hmc
    rcases hmc with ⟨m1, m0⟩ | ⟨m1, m2, m0⟩ | ⟨m1, m2, m3, m0⟩ | ⟨m1, m2, m3, m4, m0⟩ | ⟨m1, m2, m3, m4, m0⟩
    · exact quorumSays_G1 N K wr r A B an ab bn bb w hA hB (by omega) (by omega) (by omega) (by omega) a0 (.inl m1) m0
    · exact quorumSays_G1 N K wr r A B an ab bn bb w hA hB (by omega) (by omega) (by omega) (by omega) a0 (.inr m2) m0
    · exact quorumSays_G3 N K wr r A B an ab bn bb w hA hB (by omega) (by omega) (by omega) (by omega) a0 ⟨m1, m2⟩ m3 m0
    · exact quorumSays_G4 N K wr r A B an ab bn bb w hA hB (by omega) (by omega) (by omega) (by omega) a0 ⟨m1, m2⟩ m3 m4 m0
    · exact quorumSays_G5 N K wr r A B an ab bn bb w hA hB (by omega) (by omega) (by omega) (by omega) a0 ⟨m1, m2⟩ m3 m4 m0
end Go.Proofs.Ytkincmkmkfiglaa
