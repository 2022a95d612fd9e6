/- The reference's DoOf: a piece is turned. (Printed by wip/tools/gen_ref6.py.) -/
import Derived.Test.YtioecklnijhjgaaPlM33
import Derived.Test.YtioecklnijhjgaaRotM
import Derived.Deep.RegionHeld3
set_option linter.unusedVariables false
set_option linter.unusedSimpArgs false
namespace Go.Proofs.Ytioecklnijhjgaa
open Go.RowKit

set_option maxRecDepth 100000 in
set_option maxHeartbeats 8000000 in
theorem ref_Do7 {n D k wr0 r : Nat} {All : List It} {st : St} (key : Nat) (hkey : key < 3) (m : Int) (text : ByteArray) (ht : text.size ≤ 9223372036854775807) (hk1 : 1 ≤ k) (hkn : k ≤ n) (hn : n ≤ 10) (h : Shl n D All st) (ao : Option Addr) (ca : Nat) (w : World) (hR : Reads w ao (itCells All)) (hnone : ao = none → All.length = 0 ∧ ca = 0) :
    Calls Try.prog 9 #[.agg (shC n k wr0 r D st.wr (.slice ao All.length ca)), deedV 7 (key : Int) m text] w (RefPost n k wr0 r ao (doF n k wr0 r st 7 (key : Int) m text) w) := by
  obtain ⟨la, hla⟩ : ∃ la, All.length = la := ⟨_, rfl⟩
  obtain ⟨mw, hmw⟩ : ∃ mw, st.wr = mw := ⟨_, rfl⟩
  rw [hla, hmw]
  have hl3 : la ≤ 30000000 := by rw [← hla]; exact h.len hn
  obtain ⟨W1, hW1⟩ : ∃ W1, (((w.alloc (.cells (shC n k wr0 r D mw (.slice ao la ca)) 33)).alloc (.cells #[.int .i64 7, .int .i64 (key : Int), .int .i64 m, .string text] 36)).alloc (.cells #[.int .i64 0, .int .i64 0, .int .i64 0, .int .i64 0, .int .u16 0, .int .i64 0, .slice none 0 0] 33)).alloc (.cells #[.string ⟨#[]⟩, .int .i64 0, .int .i64 0, .int .i64 0] 40) = W1 := ⟨_, rfl⟩
  have hb0 := below_alloc w (.cells (shC n k wr0 r D mw (.slice ao la ca)) 33)
  have hb1 : Below w.heap.size w W1 := by rw [← hW1]; exact ((hb0.alloc (by simp) _).alloc (by simp; omega) _).alloc (by simp; omega) _
  have hx1 : W1.heap[w.heap.size]? = some (.cells (shC n k wr0 r D mw (.slice ao la ca)) 33 (0, 0)) := by rw [← hW1]; exact heap_alloc_old _ _ (heap_alloc_old _ _ (heap_alloc_old _ _ (heap_alloc_new w _)))
  have hd1 : W1.heap[w.heap.size + 1]? = some (.cells #[.int .i64 7, .int .i64 (key : Int), .int .i64 m, .string text] 36 (0, 0)) := by rw [← hW1]; exact heap_alloc_old _ _ (heap_alloc_old _ _ (heap_new' _ _ _ (by simp)))
  have hz1 : W1.heap[w.heap.size + 2]? = some (.cells #[.int .i64 0, .int .i64 0, .int .i64 0, .int .i64 0, .int .u16 0, .int .i64 0, .slice none 0 0] 33 (0, 0)) := by rw [← hW1]; exact heap_alloc_old _ _ (heap_new' _ _ _ (by simp))
  have ht1 : W1.heap[w.heap.size + 3]? = some (.cells #[.string ⟨#[]⟩, .int .i64 0, .int .i64 0, .int .i64 0] 40 (0, 0)) := by rw [← hW1]; exact heap_new' _ _ _ (by simp)
  have hs1 : W1.heap.size = w.heap.size + 4 := by rw [← hW1]; simp
  have HB1 := Lib.hid hb1
  have HX1 := Lib.hid hx1
  have HD1 := Lib.hid hd1
  have HZ1 := Lib.hid hz1
  have HT1 := Lib.hid ht1
  have HS1 := Lib.hid hs1
  have HLA := Lib.hid hla
  have HMW := Lib.hid hmw
  have HR := Lib.hid hR
  have HNO := Lib.hid hnone
  have HSH := Lib.hid h
  clear h hb0 hb1 hx1 hd1 hz1 ht1 hs1 hla hmw hR hnone
  have hmm := @run_makeMap Try.prog
  obtain ⟨v1, v2, v3, v4, Wm, r1, r2, r3, r4, r5, r6, hbm⟩ := keyed_map Try.underlying67 Try.underlying3 Try.zeroValue4 W1 7
  have HBM := Lib.hid hbm
  have HB := Lib.hid (HB1.out.trans (hbm.mono HB1.out.size))
  have HX := Lib.hid ((hbm.block w.heap.size (by have := HS1.out; omega)).trans HX1.out)
  have HDd := Lib.hid ((hbm.block (w.heap.size + 1) (by have := HS1.out; omega)).trans HD1.out)
  have HZ := Lib.hid ((hbm.block (w.heap.size + 2) (by have := HS1.out; omega)).trans HZ1.out)
  have HT := Lib.hid ((hbm.block (w.heap.size + 3) (by have := HS1.out; omega)).trans HT1.out)
  have HSZ : Hid (w.heap.size + 4 ≤ Wm.heap.size) := Lib.hid (by have := hbm.size; have := HS1.out; omega)
  have HRm : Hid (Reads Wm ao (itCells All)) := Lib.hid (HR.out.below HB.out)
  clear hbm
  have x0 := heap_cell HX.out 0
  have x1 := heap_cell HX.out 1
  have x2 := heap_cell HX.out 2
  have x3 := heap_cell HX.out 3
  have x4 := heap_cell HX.out 4
  have x5 := heap_cell HX.out 5
  have x6 := heap_cell HX.out 6
  have d0 := heap_cell HDd.out 0
  have d1 := heap_cell HDd.out 1
  have d2 := heap_cell HDd.out 2
  have d3 := heap_cell HDd.out 3
  have bz0 := heap_cell HZ.out 0
  have bz1 := heap_cell HZ.out 1
  have bz2 := heap_cell HZ.out 2
  have bz3 := heap_cell HZ.out 3
  have bz4 := heap_cell HZ.out 4
  have bz5 := heap_cell HZ.out 5
  have bz6 := heap_cell HZ.out 6
  have cz0 := heap_cell HT.out 0
  have cz1 := heap_cell HT.out 1
  have cz2 := heap_cell HT.out 2
  have cz3 := heap_cell HT.out 3
  simp only [List.getElem?_toArray, List.getElem?_cons_zero, List.getElem?_cons_succ] at x0 x1 x2 x3 x4 x5 x6 d0 d1 d2 d3 bz0 bz1 bz2 bz3 bz4 bz5 bz6 cz0 cz1 cz2 cz3
  have fb0 := heap_frozen HZ.out 0
  have fb1 := heap_frozen HZ.out 1
  have fb2 := heap_frozen HZ.out 2
  have fb3 := heap_frozen HZ.out 3
  have fb4 := heap_frozen HZ.out 4
  have fb5 := heap_frozen HZ.out 5
  have fb6 := heap_frozen HZ.out 6
  have fc0 := heap_frozen HT.out 0
  have fc1 := heap_frozen HT.out 1
  have fc2 := heap_frozen HT.out 2
  have fc3 := heap_frozen HT.out 3
  rw [show keyB 7 = true from rfl] at r6
  have t3 : decide ((key : Int) < 0) = false := decide_eq_false (by omega)
  have t4 : decide ((2 : Int) < (key : Int)) = false := decide_eq_false (by omega)
  have t4' : decide (2 < key) = false := decide_eq_false (by omega)
  have HDO : Hid (doF n k wr0 r st 7 (key : Int) m text = ((atF n st 7 key m).1, Tl.no, (atF n st 7 key m).2)) := Lib.hid (by
    unfold doF
    rw [if_neg (by unfold keyedB; simp; omega), if_neg (by decide), if_neg (by decide), if_neg (by decide), if_neg (by decide), Int.toNat_natCast])
  by_cases g1 : m < 0
  · have HF : Hid (doF n k wr0 r st 7 (key : Int) m text = (st, Tl.no, 1)) := Lib.hid (by rw [HDO.out]; unfold atF; rw [if_pos (.inl g1)])
    have t1 : decide (m < 0) = true := decide_eq_true g1
    clear g1
    obtain ⟨qq1, qq2⟩ := two_heaps (A := w.heap.size + 2) (B := w.heap.size + 3) (by omega) HZ.out HT.out (.int .i64 (n : Int)) (.int .i64 (k : Int)) (.int .i64 (wr0 : Int)) (.int .i64 (r : Int)) (.int .u16 (D : Int)) (.int .i64 (mw : Int)) (.slice ao la ca) (.string ⟨#[]⟩) (.int .i64 0) (.int .i64 0) (.int .i64 0)
    have y0 := heap_cell qq1 0
    have y1 := heap_cell qq1 1
    have y2 := heap_cell qq1 2
    have y3 := heap_cell qq1 3
    have y4 := heap_cell qq1 4
    have y5 := heap_cell qq1 5
    have y6 := heap_cell qq1 6
    have z0 := heap_cell qq2 0
    have z1 := heap_cell qq2 1
    have z2 := heap_cell qq2 2
    have z3 := heap_cell qq2 3
    simp only [List.getElem?_toArray, List.getElem?_cons_zero, List.getElem?_cons_succ] at y0 y1 y2 y3 y4 y5 y6 z0 z1 z2 z3
    clear qq1 qq2
    have HBZ := Lib.hid (below_four (below_seven HB.out (show w.heap.size ≤ w.heap.size + 2 by omega) (.int .i64 (n : Int)) (.int .i64 (k : Int)) (.int .i64 (wr0 : Int)) (.int .i64 (r : Int)) (.int .u16 (D : Int)) (.int .i64 (mw : Int)) (.slice ao la ca)) (show w.heap.size ≤ w.heap.size + 3 by omega) (.string ⟨#[]⟩) (.int .i64 0) (.int .i64 0) (.int .i64 0))
    go_enter Try.func9, Try.ntmps9
    go_wp2_with fail

    refine bodyPost_ret (v := .tuple #[.agg (shC n k wr0 r D mw (.slice ao la ca)), .agg #[.string ⟨#[]⟩, .int .i64 0, .int .i64 0, .int .i64 0], .int .i64 1]) (by simp [results, Try.results9, go_sem, y0, y1, y2, y3, y4, y5, y6, z0, z1, z2, z3]; try rfl) rfl ?_
    rw [HF.out]
    exact ⟨D, All, ao, ca, by rw [HLA.out, HMW.out]; rfl, HSH.out, HR.out.below HBZ.out, HNO.out, .inl rfl, HBZ.out⟩
  have t1 : decide (m < 0) = false := decide_eq_false g1
  by_cases g2 : (n : Int) ≤ m
  · have HF : Hid (doF n k wr0 r st 7 (key : Int) m text = (st, Tl.no, 1)) := Lib.hid (by rw [HDO.out]; unfold atF; rw [if_pos (.inr g2)])
    have t2 : decide ((n : Int) ≤ m) = true := decide_eq_true g2
    clear g1 g2
    obtain ⟨qq1, qq2⟩ := two_heaps (A := w.heap.size + 2) (B := w.heap.size + 3) (by omega) HZ.out HT.out (.int .i64 (n : Int)) (.int .i64 (k : Int)) (.int .i64 (wr0 : Int)) (.int .i64 (r : Int)) (.int .u16 (D : Int)) (.int .i64 (mw : Int)) (.slice ao la ca) (.string ⟨#[]⟩) (.int .i64 0) (.int .i64 0) (.int .i64 0)
    have y0 := heap_cell qq1 0
    have y1 := heap_cell qq1 1
    have y2 := heap_cell qq1 2
    have y3 := heap_cell qq1 3
    have y4 := heap_cell qq1 4
    have y5 := heap_cell qq1 5
    have y6 := heap_cell qq1 6
    have z0 := heap_cell qq2 0
    have z1 := heap_cell qq2 1
    have z2 := heap_cell qq2 2
    have z3 := heap_cell qq2 3
    simp only [List.getElem?_toArray, List.getElem?_cons_zero, List.getElem?_cons_succ] at y0 y1 y2 y3 y4 y5 y6 z0 z1 z2 z3
    clear qq1 qq2
    have HBZ := Lib.hid (below_four (below_seven HB.out (show w.heap.size ≤ w.heap.size + 2 by omega) (.int .i64 (n : Int)) (.int .i64 (k : Int)) (.int .i64 (wr0 : Int)) (.int .i64 (r : Int)) (.int .u16 (D : Int)) (.int .i64 (mw : Int)) (.slice ao la ca)) (show w.heap.size ≤ w.heap.size + 3 by omega) (.string ⟨#[]⟩) (.int .i64 0) (.int .i64 0) (.int .i64 0))
    go_enter Try.func9, Try.ntmps9
    go_wp2_with fail

    refine bodyPost_ret (v := .tuple #[.agg (shC n k wr0 r D mw (.slice ao la ca)), .agg #[.string ⟨#[]⟩, .int .i64 0, .int .i64 0, .int .i64 0], .int .i64 1]) (by simp [results, Try.results9, go_sem, y0, y1, y2, y3, y4, y5, y6, z0, z1, z2, z3]; try rfl) rfl ?_
    rw [HF.out]
    exact ⟨D, All, ao, ca, by rw [HLA.out, HMW.out]; rfl, HSH.out, HR.out.below HBZ.out, HNO.out, .inl rfl, HBZ.out⟩
  obtain ⟨M, rfl⟩ : ∃ M : Nat, m = M := ⟨m.toNat, by omega⟩
  have hMn : M < n := by omega
  have t2 : decide ((n : Int) ≤ (M : Int)) = false := decide_eq_false g2
  have t2' : decide (n ≤ M) = false := decide_eq_false (by omega)
  have HAT : Hid (atF n st 7 key (M : Int) = rotF st key M) := Lib.hid (by
    unfold atF
    rw [if_neg (by omega), if_neg (by decide), if_neg (by decide), if_neg (by decide), if_pos rfl, Int.toNat_natCast])
  clear g1 g2
  have m0 : (0 : Int) ≤ (M : Int) := by omega
  have m1 : (M : Int) ≤ 16 := by omega
  have CK := Lib.hid (ref_KeptAt n k wr0 r D mw ao la ca All M key Wm HLA.out hl3 HRm)
  unfold KeptPost at CK
  rw [HSH.out.kp M key hMn hkey] at CK
  have hl6 := HSH.out.ok.len M key
  have HSRT := Lib.hid (HSH.out.ok.srt M key)
  have HROT : Hid (rotF st key M = if (st.kp M key).length = 0 then (st, 4) else (st.set M key (rotK (st.kp M key)), 0)) := Lib.hid rfl
  have HLKE : Hid (∃ L, st.kp M key = L) := Lib.hid ⟨_, rfl⟩
  obtain ⟨L, hL⟩ := HLKE.out
  have HKE := Lib.hid hL
  rw [hL] at CK hl6 HSRT HROT
  obtain ⟨lk, hlk⟩ : ∃ lk, L.length = lk := ⟨_, rfl⟩
  rw [hlk] at CK hl6 HROT
  have HLK := Lib.hid hlk
  clear hL hlk
  go_enter Try.func9, Try.ntmps9
  go_wp2_with fail
  (with_reducible refine CK.out.mono ?_)
  rintro e w6 ⟨a6, c6, rfl, ho6, hb6⟩
  have HB6 := Lib.hid hb6
  have HR6 : Hid (Reads w6 a6 (kpCells L)) := Lib.hid (own_reads' ho6)
  have HX6 := Lib.hid ((hb6.block w.heap.size (by have := HSZ.out; omega)).trans HX.out)
  have HD6 := Lib.hid ((hb6.block (w.heap.size + 1) (by have := HSZ.out; omega)).trans HDd.out)
  have HZ6 := Lib.hid ((hb6.block (w.heap.size + 2) (by have := HSZ.out; omega)).trans HZ.out)
  have HT6 := Lib.hid ((hb6.block (w.heap.size + 3) (by have := HSZ.out; omega)).trans HT.out)
  have HBw6 : Hid (Below w.heap.size w w6) := Lib.hid (HB.out.trans (hb6.mono HB.out.size))
  have HSZ6 : Hid (w.heap.size + 4 ≤ w6.heap.size) := Lib.hid (by have := hb6.size; have := HSZ.out; omega)
  clear ho6 hb6 CK x0 x1 x2 x3 x4 x5 x6 d0 d1 d2 d3 bz0 bz1 bz2 bz3 bz4 bz5 bz6 cz0 cz1 cz2 cz3 fb0 fb1 fb2 fb3 fb4 fb5 fb6 fc0 fc1 fc2 fc3 r1 r2 r3 r4 r5 r6 hmm
  have x0 := heap_cell HX6.out 0
  have x1 := heap_cell HX6.out 1
  have x2 := heap_cell HX6.out 2
  have x3 := heap_cell HX6.out 3
  have x4 := heap_cell HX6.out 4
  have x5 := heap_cell HX6.out 5
  have x6 := heap_cell HX6.out 6
  have d0 := heap_cell HD6.out 0
  have d1 := heap_cell HD6.out 1
  have d2 := heap_cell HD6.out 2
  have d3 := heap_cell HD6.out 3
  have bz0 := heap_cell HZ6.out 0
  have bz1 := heap_cell HZ6.out 1
  have bz2 := heap_cell HZ6.out 2
  have bz3 := heap_cell HZ6.out 3
  have bz4 := heap_cell HZ6.out 4
  have bz5 := heap_cell HZ6.out 5
  have bz6 := heap_cell HZ6.out 6
  have cz0 := heap_cell HT6.out 0
  have cz1 := heap_cell HT6.out 1
  have cz2 := heap_cell HT6.out 2
  have cz3 := heap_cell HT6.out 3
  simp only [List.getElem?_toArray, List.getElem?_cons_zero, List.getElem?_cons_succ] at x0 x1 x2 x3 x4 x5 x6 d0 d1 d2 d3 bz0 bz1 bz2 bz3 bz4 bz5 bz6 cz0 cz1 cz2 cz3
  have fb0 := heap_frozen HZ6.out 0
  have fb1 := heap_frozen HZ6.out 1
  have fb2 := heap_frozen HZ6.out 2
  have fb3 := heap_frozen HZ6.out 3
  have fb4 := heap_frozen HZ6.out 4
  have fb5 := heap_frozen HZ6.out 5
  have fb6 := heap_frozen HZ6.out 6
  have fc0 := heap_frozen HT6.out 0
  have fc1 := heap_frozen HT6.out 1
  have fc2 := heap_frozen HT6.out 2
  have fc3 := heap_frozen HT6.out 3
  by_cases g0 : lk = 0
  · have HF : Hid (doF n k wr0 r st 7 (key : Int) (M : Int) text = (st, Tl.no, 4)) := Lib.hid (by rw [HDO.out, HAT.out, HROT.out, if_pos g0])
    have t5 : ((lk : Int) == 0) = true := by simp; omega
    clear g0
    obtain ⟨qq1, qq2⟩ := two_heaps (A := w.heap.size + 2) (B := w.heap.size + 3) (by omega) HZ6.out HT6.out (.int .i64 (n : Int)) (.int .i64 (k : Int)) (.int .i64 (wr0 : Int)) (.int .i64 (r : Int)) (.int .u16 (D : Int)) (.int .i64 (mw : Int)) (.slice ao la ca) (.string ⟨#[]⟩) (.int .i64 0) (.int .i64 0) (.int .i64 0)
    have y0 := heap_cell qq1 0
    have y1 := heap_cell qq1 1
    have y2 := heap_cell qq1 2
    have y3 := heap_cell qq1 3
    have y4 := heap_cell qq1 4
    have y5 := heap_cell qq1 5
    have y6 := heap_cell qq1 6
    have z0 := heap_cell qq2 0
    have z1 := heap_cell qq2 1
    have z2 := heap_cell qq2 2
    have z3 := heap_cell qq2 3
    simp only [List.getElem?_toArray, List.getElem?_cons_zero, List.getElem?_cons_succ] at y0 y1 y2 y3 y4 y5 y6 z0 z1 z2 z3
    clear qq1 qq2
    have HBZ := Lib.hid (below_four (below_seven HBw6.out (show w.heap.size ≤ w.heap.size + 2 by omega) (.int .i64 (n : Int)) (.int .i64 (k : Int)) (.int .i64 (wr0 : Int)) (.int .i64 (r : Int)) (.int .u16 (D : Int)) (.int .i64 (mw : Int)) (.slice ao la ca)) (show w.heap.size ≤ w.heap.size + 3 by omega) (.string ⟨#[]⟩) (.int .i64 0) (.int .i64 0) (.int .i64 0))
    go_wp2_with fail

    refine bodyPost_ret (v := .tuple #[.agg (shC n k wr0 r D mw (.slice ao la ca)), .agg #[.string ⟨#[]⟩, .int .i64 0, .int .i64 0, .int .i64 0], .int .i64 4]) (by simp [results, Try.results9, go_sem, y0, y1, y2, y3, y4, y5, y6, z0, z1, z2, z3]; try rfl) rfl ?_
    rw [HF.out]
    exact ⟨D, All, ao, ca, by rw [HLA.out, HMW.out]; rfl, HSH.out, HR.out.below HBZ.out, HNO.out, .inl rfl, HBZ.out⟩
  obtain ⟨lq, rfl⟩ : ∃ lq, lk = lq + 1 := ⟨lk - 1, by omega⟩
  have t5 : ((((lq + 1 : Nat)) : Int) == 0) = false := by simp; omega
  have t5' : ((lq : Int) + 1 == 0) = false := by simp; omega
  have e6 : (((lq + 1 : Nat)) : Int) - 1 = (lq : Int) := by omega
  have e6' : (lq : Int) + 1 - 1 = (lq : Int) := by omega
  have e7 : (((lq + 1 : Nat)) : Int) = (lq : Int) + 1 := by omega
  obtain ⟨bk, ok, hrk, z0, z1, z2⟩ := kp_cells HR6.out (k := lq) (by rw [HLK.out]; omega)
  cases hrk
  obtain ⟨x, hx⟩ : ∃ x, L[lq]'(by rw [HLK.out]; omega) = x := ⟨_, rfl⟩
  have HXL : Hid (L[lq]? = some x) := Lib.hid (by rw [List.getElem?_eq_getElem (by rw [HLK.out]; omega), hx])
  rw [hx] at z0 z2
  obtain ⟨b, s⟩ := x
  obtain ⟨W7, hW7⟩ : ∃ W7, w6.alloc (.cells #[.int .i64 (b : Int), .int .i64 0, .string s] 50) = W7 := ⟨_, rfl⟩
  have hb7 : Below w6.heap.size w6 W7 := by rw [← hW7]; exact below_alloc _ _
  obtain ⟨B9, hB9⟩ : ∃ B9, w6.heap.size = B9 := ⟨_, rfl⟩
  have HH7 : Hid (W7.heap[B9]? = some (.cells #[.int .i64 (b : Int), .int .i64 0, .string s] 50 (0, 0))) := Lib.hid (by rw [← hW7, ← hB9]; exact heap_alloc_new _ _)
  have HX7 := Lib.hid ((hb7.block w.heap.size (by have := HSZ6.out; omega)).trans HX6.out)
  have HD7 := Lib.hid ((hb7.block (w.heap.size + 1) (by have := HSZ6.out; omega)).trans HD6.out)
  have HZ7 := Lib.hid ((hb7.block (w.heap.size + 2) (by have := HSZ6.out; omega)).trans HZ6.out)
  have HT7 := Lib.hid ((hb7.block (w.heap.size + 3) (by have := HSZ6.out; omega)).trans HT6.out)
  have HBw7 : Hid (Below w.heap.size w W7) := Lib.hid (HBw6.out.trans (hb7.mono HBw6.out.size))
  obtain ⟨zz, hzz⟩ : ∃ zz, W7.heap.size = zz := ⟨_, rfl⟩
  have HZZ := Lib.hid hzz
  have hBz : B9 < zz := by rw [← hzz, ← hW7, ← hB9]; simp
  have hSz : w.heap.size + 4 ≤ B9 := by rw [← hB9]; exact HSZ6.out
  have CC := Lib.hid (clone_item All la ao ca W7.heap.size W7 hl3 HLA.out (by have h1 := HNO.out; rw [HLA.out] at h1; exact h1) (Lib.hid (HR.out.below HBw7.out)) (Nat.le_refl _))
  unfold RowI at CC
  have y6 := heap_cell HX7.out 6
  simp only [List.getElem?_toArray, List.getElem?_cons_zero, List.getElem?_cons_succ] at y6
  clear hx hb7 g0 hzz
  go_wp2_with fail
  (with_reducible refine CC.out.mono ?_)
  clear hW7 hB9 y6 x0 x1 x2 x3 x4 x5 x6 d0 d1 d2 d3 bz0 bz1 bz2 bz3 bz4 bz5 bz6 cz0 cz1 cz2 cz3 fb0 fb1 fb2 fb3 fb4 fb5 fb6 fc0 fc1 fc2 fc3 z0 z1 z2
  rintro e w7 ⟨a7, c7, rfl, ho7, hb7⟩
  rw [HZZ.out] at ho7 hb7
  have HX8 := Lib.hid ((hb7.block w.heap.size (by omega)).trans HX7.out)
  have y6 := heap_cell HX8.out 6
  simp only [List.getElem?_toArray, List.getElem?_cons_zero, List.getElem?_cons_succ] at y6
  have fy6 := heap_frozen HX8.out 6
  obtain ⟨W9, hW9⟩ : ∃ W9, (w7.setCell ⟨w.heap.size, 6, none⟩ (.slice a7 la c7)) = W9 := ⟨_, rfl⟩
  have HX9 : Hid (W9.heap[w.heap.size]? = some (.cells (shC n k wr0 r D mw (.slice a7 la c7)) 33 (0, 0))) := Lib.hid (by rw [← hW9, heap_set _ HX8.out]; rfl)
  have hfar : ∀ g, g < zz → g ≠ w.heap.size → W9.heap[g]? = W7.heap[g]? := fun g h1 h2 => by rw [← hW9, heap_set_far _ (by omega)]; exact hb7.block g h1
  have HD9 := Lib.hid ((hfar (w.heap.size + 1) (by omega) (by omega)).trans HD7.out)
  have HZ9 := Lib.hid ((hfar (w.heap.size + 2) (by omega) (by omega)).trans HZ7.out)
  have HT9 := Lib.hid ((hfar (w.heap.size + 3) (by omega) (by omega)).trans HT7.out)
  have HH9 := Lib.hid ((hfar B9 (by omega) (by omega)).trans HH7.out)
  have HB9w : Hid (Below w.heap.size w W9) := Lib.hid (by rw [← hW9]; exact below_set (HBw7.out.trans (hb7.mono (by omega))) (Nat.le_refl _) _)
  have HO9 : Hid (W9.ownsRow zz 70 5 (.slice a7 la c7) la (itCells All)) := Lib.hid (by rw [← hW9]; exact ho7.kept (setCell_grown _ _ _ _) (.inr (fun h => by have := (ho7.lt _ h).1; omega)))
  have HZ : Hid (zz ≤ W9.heap.size) := Lib.hid (by rw [← HZZ.out, ← hW9]; simpa using hb7.size)
  have n6 := heap_cell HX9.out 6
  simp only [List.getElem?_toArray, List.getElem?_cons_zero, List.getElem?_cons_succ] at n6
  clear ho7 hb7 hfar CC
  go_wp2_with fail
  clear hW9 y6 fy6 n6
  go_loopw [127] (fun vj wr => ∃ j : Nat, vj = .int .i64 j ∧ j ≤ la ∧ Hid (wr.ownsRow zz 70 5 (.slice a7 la c7) la (itCells (turnT M key b j All))) ∧ Hid (Below zz W9 wr)) (fun vj _ => la - (intOf vj).toNat)
  case atStart => exact ⟨0, rfl, by omega, Lib.hid (by rw [turnT_zero]; exact HO9.out), Lib.hid (Below.refl _ _)⟩
  case round =>
    clear HO9
    obtain ⟨j, rfl, hj, HO, HBj⟩ := hrel
    obtain ⟨wq, rfl⟩ : ∃ wq, wq = wr := ⟨_, rfl⟩
    by_cases hjl : j < la
    · obtain ⟨x, hx⟩ : ∃ x, All[j]? = some x := ⟨All[j]'(by rw [HLA.out]; exact hjl), List.getElem?_eq_getElem _⟩
      have HXj := Lib.hid hx
      obtain ⟨ba, oa, hra, z0, z1, z2, z3, z4⟩ := it_cells (own_reads' HO.out) (turnT_at M key b hx)
      cases hra
      have hit := HSH.out.it x (List.mem_of_getElem? hx)
      obtain ⟨u0, u1, c, s2⟩ := x
      have HDq := Lib.hid ((HBj.out.block (w.heap.size + 1) (by omega)).trans HD9.out)
      have HXq := Lib.hid ((HBj.out.block w.heap.size (by omega)).trans HX9.out)
      have HHq := Lib.hid ((HBj.out.block B9 hBz).trans HH9.out)
      have hzq : zz ≤ wq.heap.size := Nat.le_trans HZ.out HBj.out.size
      obtain ⟨W4, hW4⟩ : ∃ W4, wq.alloc (.cells #[.int .i64 (u0 : Int), .int .i64 (u1 : Int), .int .i64 (c : Int), .int .i64 0, .string s2] 70) = W4 := ⟨_, rfl⟩
      have hba0 := (HO.out.lt ba rfl).1
      have hbl0 := (HO.out.lt ba rfl).2
      obtain ⟨B4, hB4⟩ : ∃ B4, wq.heap.size = B4 := ⟨_, rfl⟩
      have HN4 : Hid (B4 ≠ ba) := Lib.hid (by omega)
      have hb4 : Below wq.heap.size wq W4 := by rw [← hW4]; exact below_alloc _ _
      have HI4 : Hid (W4.heap[B4]? = some (.cells #[.int .i64 (u0 : Int), .int .i64 (u1 : Int), .int .i64 (c : Int), .int .i64 0, .string s2] 70 (0, 0))) := Lib.hid (by rw [← hW4, ← hB4]; exact heap_alloc_new _ _)
      have HD4 := Lib.hid ((hb4.block (w.heap.size + 1) (by omega)).trans HDq.out)
      have HX4 := Lib.hid ((hb4.block w.heap.size (by omega)).trans HXq.out)
      have HH4 := Lib.hid ((hb4.block B9 (by omega)).trans HHq.out)
      have HO4 : Hid (W4.ownsRow zz 70 5 (.slice (some ⟨ba, oa, none⟩) la c7) la (itCells (turnT M key b j All))) := Lib.hid (own_below HO.out hb4)
      have HB4 : Hid (Below zz W9 W4) := Lib.hid (HBj.out.trans (hb4.mono hzq))
      have v0 := heap_cell HI4.out 0
      have v1 := heap_cell HI4.out 1
      have v2 := heap_cell HI4.out 2
      have v3 := heap_cell HI4.out 3
      have i4 := heap_cell HI4.out 4
      have d1 := heap_cell HD4.out 1
      have d2 := heap_cell HD4.out 2
      have k0 := heap_cell HH4.out 0
      have k1 := heap_cell HH4.out 1
      have x6 := heap_cell HX4.out 6
      simp only [List.getElem?_toArray, List.getElem?_cons_zero, List.getElem?_cons_succ] at v0 v1 v2 v3 i4 d1 d2 k0 k1 x6
      clear hx hb4
      by_cases q1 : u0 = M
      · have t6 : ((u0 : Int) == (M : Int)) = true := by simp; omega
        by_cases q2 : u1 = key
        · have t7 : ((u1 : Int) == (key : Int)) = true := by simp; omega
          by_cases q3 : c = b
          · have t8 : ((c : Int) == (b : Int)) = true := by simp; omega
            have HT1 := Lib.hid (turnT_yes M key b HXj.out q1 q2 q3)
            have hsz := Lib.hid (kept_size HSH.out hMn hkey HXj.out q1 q2)
            clear q1 q2 q3
            go_wp2_with fail
            clear hW4 hB4
            obtain ⟨hoa, hba⟩ := own_off HO4.out
            subst hoa
            have hs5 := hsz.out
            have hs0 : 0 < s2.size := by omega
            have hs1 : (1 : Int) ≤ (s2.size : Int) := by omega
            have hs1' : 1 ≤ s2.size := by omega
            obtain ⟨bb, hbb⟩ : ∃ bb, byteS s2 0 = bb := ⟨_, rfl⟩
            have hb2 : s2[0].toNat = bb := by rw [← hbb]; exact byteS_get s2 0 hs0
            have hb3 : (s2.data[0]'(by have : s2.size = s2.data.size := rfl; omega)).toNat = bb := hb2
            obtain ⟨y, hy⟩ : ∃ y, bb ^^^ 1 = y := ⟨_, rfl⟩
            have hfl := u8_flip bb (by rw [← hbb]; exact byteS_lt _ _)
            rw [hy] at hfl
            have e8 := hfl.1
            have hy2 := hfl.2
            have HFL : Hid (strOf [y] ++ s2.extract 1 s2.size = flipS s2) := Lib.hid (by rw [← hy, ← hbb]; exact flip_eq hs1')
            have KC : (convert 73 9 (.slice (some ⟨W4.heap.size, 0, none⟩) 1 1)).run Try.prog (W4.alloc (.cells #[.int .u8 (y : Int)] 5)) = .ok (.string (strOf [y])) (W4.alloc (.cells #[.int .u8 (y : Int)] 5)) := conv_list [y] (some ⟨W4.heap.size, 0, none⟩) 1 _ (by intro c hc; simp at hc; omega) (fun h => by cases h) (reads_new W4 _ _)
            have KC2 : (convert 73 9 (.slice (some ⟨W4.heap.size, 0, none⟩) 1 1)).run Try.prog (W4.alloc (.cells #[.int .u8 (y : Int)] 5)).drew = .ok (.string (strOf [y])) (W4.alloc (.cells #[.int .u8 (y : Int)] 5)).drew := conv_list [y] (some ⟨W4.heap.size, 0, none⟩) 1 _ (by intro c hc; simp at hc; omega) (fun h => by cases h) (reads_new W4 _ _)
            have hys : (strOf [y]).size = 1 := by rw [strOf_size]; rfl
            obtain ⟨Y, hY⟩ : ∃ Y, strOf [y] = Y := ⟨_, rfl⟩
            rw [hY] at KC KC2 hys HFL
            have hbl : Below W4.heap.size W4 (W4.alloc (.cells #[.int .u8 (y : Int)] 5)) := below_alloc _ _
            have HOa := Lib.hid (own_below HO4.out hbl)
            have hln : (turnT M key b j All).length = la := by rw [turnT_len]; exact HLA.out
            have pc : (W4.alloc (.cells #[.int .u8 (y : Int)] 5)).cell? ⟨ba, j * 5 + 4, none⟩ = some (.string s2) := (World.ownsRow.cellAt HOa.out (j * 5 + 4) (by omega)).trans (itCells_get (turnT_at M key b HXj.out) 4 (by omega))
            have pf : (W4.alloc (.cells #[.int .u8 (y : Int)] 5)).frozen? ⟨ba, j * 5 + 4, none⟩ = false := World.ownsRow.frozenAt HOa.out _
            have pc2 : (W4.alloc (.cells #[.int .u8 (y : Int)] 5)).cell? ⟨ba, j * 5 + 2 + 2, none⟩ = some (.string s2) := pc
            have pf2 : (W4.alloc (.cells #[.int .u8 (y : Int)] 5)).frozen? ⟨ba, j * 5 + 2 + 2, none⟩ = false := pf
            have hez : (s2.extract 1 s2.size).size = s2.size - 1 := by rw [ByteArray.size_extract]; omega
            have hsum : ¬ (9223372036854775807 < 1 + (s2.size - 1)) := by omega
            have hlt4 : ba < W4.heap.size := (HO4.out.lt ba rfl).2
            have x6a := (hbl.cell (p := ⟨w.heap.size, 6, none⟩) (by show w.heap.size < W4.heap.size; omega)).trans x6
            have i4a := (hbl.cell (p := ⟨B4, 4, none⟩) (World.block_lt_of_cell? W4 _ i4)).trans i4
            have HNE : Hid (w.heap.size ≠ ba ∧ B4 ≠ ba) := Lib.hid ⟨by omega, HN4.out⟩
            have j0 : (0 : Int) ≤ (j : Int) := by omega
            have j1 : (j : Int) < (la : Int) := by omega
            have A9 := World.ownsRow.stored HO4.out (j * 5 + 4) (.string (flipS s2))
            have HO9 : Hid ((((W4.setCell ⟨ba, j * 5 + 2 + 2, none⟩ (.string (Y ++ s2.extract 1 s2.size))).alloc (.cells #[.int .u8 (y : Int)] 5)).drew).ownsRow zz 70 5 (.slice (some ⟨ba, 0, none⟩) la c7) la (itCells (turnT M key b (j + 1) All))) := Lib.hid (by
              rw [HFL.out, HT1.out, ← itCells_last (turnT_at M key b HXj.out)]
              exact own_below (own_below A9.1 (below_alloc _ _)) (below_dr _ _ 1))
            have HB9 : Hid (Below zz W9 (((W4.setCell ⟨ba, j * 5 + 2 + 2, none⟩ (.string (Y ++ s2.extract 1 s2.size))).alloc (.cells #[.int .u8 (y : Int)] 5)).drew)) := Lib.hid (below_drew1 ((below_set HB4.out hba _).alloc (by have h1 := (below_set (j := j * 5 + 2 + 2) (Below.refl zz W4) hba (.string (Y ++ s2.extract 1 s2.size))).size; have h2 := hlt4; omega) _))
            clear hbb hy hY hfl A9 hbl hln
            go_wp2_with fail
            go_region
            all_goals
              go_wp2_with fail
              go_roundw
              case rel => exact ⟨j + 1, by go_num, by omega, HO9, HB9⟩
              case measure => simp [intOf]; omega
          · have t8 : ((c : Int) == (b : Int)) = false := by simp; omega
            have HT1 := Lib.hid (turnT_no M key b HXj.out (fun h => q3 h.2.2))
            have HO5 : Hid (W4.ownsRow zz 70 5 (.slice (some ⟨ba, oa, none⟩) la c7) la (itCells (turnT M key b (j + 1) All))) := Lib.hid (by rw [HT1.out]; exact HO4.out)
            clear q1 q2 q3
            go_wp2_with fail
            clear hW4 hB4
            go_roundw
            case rel => exact ⟨j + 1, by go_num, by omega, HO5, HB4⟩
            case measure => simp [intOf]; omega
        · have t7 : ((u1 : Int) == (key : Int)) = false := by simp; omega
          have HT1 := Lib.hid (turnT_no M key b HXj.out (fun h => q2 h.2.1))
          have HO5 : Hid (W4.ownsRow zz 70 5 (.slice (some ⟨ba, oa, none⟩) la c7) la (itCells (turnT M key b (j + 1) All))) := Lib.hid (by rw [HT1.out]; exact HO4.out)
          clear q1 q2
          go_wp2_with fail
          clear hW4 hB4
          go_roundw
          case rel => exact ⟨j + 1, by go_num, by omega, HO5, HB4⟩
          case measure => simp [intOf]; omega
      · have t6 : ((u0 : Int) == (M : Int)) = false := by simp; omega
        have HT1 := Lib.hid (turnT_no M key b HXj.out (fun h => q1 h.1))
        have HO5 : Hid (W4.ownsRow zz 70 5 (.slice (some ⟨ba, oa, none⟩) la c7) la (itCells (turnT M key b (j + 1) All))) := Lib.hid (by rw [HT1.out]; exact HO4.out)
        clear q1
        go_wp2_with fail
        clear hW4 hB4
        go_roundw
        case rel => exact ⟨j + 1, by go_num, by omega, HO5, HB4⟩
        case measure => simp [intOf]; omega
    · obtain rfl : la = j := by omega
      have hll : turnT M key b la All = All.map (turnI M key b) := by rw [← HLA.out]; exact turnT_end _ _ _ _
      have HF : Hid (doF n k wr0 r st 7 (key : Int) (M : Int) text = (st.set M key (rotK L), Tl.no, 0)) := Lib.hid (by rw [HDO.out, HAT.out, HROT.out, if_neg (by omega)])
      have HSN : Hid (Shl n D (All.map (turnI M key b)) (st.set M key (rotK L))) := Lib.hid (by
        have h1 := HSH.out.rot (lq := lq) (b := b) (s := s) hMn hkey (by rw [HKE.out]; exact HLK.out) (by rw [HKE.out]; exact HXL.out)
        rw [HKE.out] at h1
        exact h1)
      have HO10 : Hid (wq.ownsRow zz 70 5 (.slice a7 la c7) la (itCells (All.map (turnI M key b)))) := Lib.hid (by rw [← hll]; exact HO.out)
      have HLN : Hid ((All.map (turnI M key b)).length = la) := Lib.hid (by rw [List.length_map]; exact HLA.out)
      have HR10 : Hid (Reads wq a7 (itCells (All.map (turnI M key b)))) := Lib.hid (own_reads' HO10.out)
      have HN10 := Lib.hid (rd_fin HO10.out).2
      have HXq := Lib.hid ((HBj.out.block w.heap.size (by omega)).trans HX9.out)
      have HZq := Lib.hid ((HBj.out.block (w.heap.size + 2) (by omega)).trans HZ9.out)
      have HTq := Lib.hid ((HBj.out.block (w.heap.size + 3) (by omega)).trans HT9.out)
      have HBq : Hid (Below w.heap.size w wq) := Lib.hid (HB9w.out.trans (HBj.out.mono (by omega)))
      clear hll
      have xn0 := heap_cell HXq.out 0
      have xn1 := heap_cell HXq.out 1
      have xn2 := heap_cell HXq.out 2
      have xn3 := heap_cell HXq.out 3
      have xn4 := heap_cell HXq.out 4
      have xn5 := heap_cell HXq.out 5
      have xn6 := heap_cell HXq.out 6
      simp only [List.getElem?_toArray, List.getElem?_cons_zero, List.getElem?_cons_succ] at xn0 xn1 xn2 xn3 xn4 xn5 xn6
      have bz0 := heap_cell HZq.out 0
      have bz1 := heap_cell HZq.out 1
      have bz2 := heap_cell HZq.out 2
      have bz3 := heap_cell HZq.out 3
      have bz4 := heap_cell HZq.out 4
      have bz5 := heap_cell HZq.out 5
      have bz6 := heap_cell HZq.out 6
      have cz0 := heap_cell HTq.out 0
      have cz1 := heap_cell HTq.out 1
      have cz2 := heap_cell HTq.out 2
      have cz3 := heap_cell HTq.out 3
      simp only [List.getElem?_toArray, List.getElem?_cons_zero, List.getElem?_cons_succ] at bz0 bz1 bz2 bz3 bz4 bz5 bz6 cz0 cz1 cz2 cz3
      have fb0 := heap_frozen HZq.out 0
      have fb1 := heap_frozen HZq.out 1
      have fb2 := heap_frozen HZq.out 2
      have fb3 := heap_frozen HZq.out 3
      have fb4 := heap_frozen HZq.out 4
      have fb5 := heap_frozen HZq.out 5
      have fb6 := heap_frozen HZq.out 6
      have fc0 := heap_frozen HTq.out 0
      have fc1 := heap_frozen HTq.out 1
      have fc2 := heap_frozen HTq.out 2
      have fc3 := heap_frozen HTq.out 3
      obtain ⟨qq1, qq2⟩ := two_heaps (A := w.heap.size + 2) (B := w.heap.size + 3) (by omega) HZq.out HTq.out (.int .i64 (n : Int)) (.int .i64 (k : Int)) (.int .i64 (wr0 : Int)) (.int .i64 (r : Int)) (.int .u16 (D : Int)) (.int .i64 (mw : Int)) (.slice a7 la c7) (.string ⟨#[]⟩) (.int .i64 0) (.int .i64 0) (.int .i64 0)
      have y0 := heap_cell qq1 0
      have y1 := heap_cell qq1 1
      have y2 := heap_cell qq1 2
      have y3 := heap_cell qq1 3
      have y4 := heap_cell qq1 4
      have y5 := heap_cell qq1 5
      have y6 := heap_cell qq1 6
      have z0 := heap_cell qq2 0
      have z1 := heap_cell qq2 1
      have z2 := heap_cell qq2 2
      have z3 := heap_cell qq2 3
      simp only [List.getElem?_toArray, List.getElem?_cons_zero, List.getElem?_cons_succ] at y0 y1 y2 y3 y4 y5 y6 z0 z1 z2 z3
      clear qq1 qq2
      have HBZ := Lib.hid (below_four (below_seven HBq.out (show w.heap.size ≤ w.heap.size + 2 by omega) (.int .i64 (n : Int)) (.int .i64 (k : Int)) (.int .i64 (wr0 : Int)) (.int .i64 (r : Int)) (.int .u16 (D : Int)) (.int .i64 (mw : Int)) (.slice a7 la c7)) (show w.heap.size ≤ w.heap.size + 3 by omega) (.string ⟨#[]⟩) (.int .i64 0) (.int .i64 0) (.int .i64 0))
      have HFS0 := Lib.hid (below_four (below_seven (Below.refl 0 wq) (Nat.zero_le (w.heap.size + 2)) (.int .i64 (n : Int)) (.int .i64 (k : Int)) (.int .i64 (wr0 : Int)) (.int .i64 (r : Int)) (.int .u16 (D : Int)) (.int .i64 (mw : Int)) (.slice a7 la c7)) (Nat.zero_le (w.heap.size + 3)) (.string ⟨#[]⟩) (.int .i64 0) (.int .i64 0) (.int .i64 0)).size
      go_wp2_with fail
      refine bodyPost_ret (v := .tuple #[.agg (shC n k wr0 r D mw (.slice a7 la c7)), .agg #[.string ⟨#[]⟩, .int .i64 0, .int .i64 0, .int .i64 0], .int .i64 0]) (by simp [results, Try.results9, go_sem, y0, y1, y2, y3, y4, y5, y6, z0, z1, z2, z3]; try rfl) rfl ?_
      rw [HF.out]
      refine ⟨D, All.map (turnI M key b), a7, c7, ?_, HSN.out, fin_far HZq.out HTq.out HR10.out (fun b o c h1 h2 hc => far4 (a0 := .string ⟨#[]⟩) (a1 := .int .i64 0) (a2 := .int .i64 0) (a3 := .int .i64 0) h2 (far7 (a0 := .int .i64 (n : Int)) (a1 := .int .i64 (k : Int)) (a2 := .int .i64 (wr0 : Int)) (a3 := .int .i64 (r : Int)) (a4 := .int .u16 (D : Int)) (a5 := .int .i64 (mw : Int)) (a6 := .slice a7 la c7) h1 hc)), fun h0 => ?_, .inr fun a ha => ?_, HBZ.out⟩
      · show _ = Ending.returned (.tuple #[.agg (shC n k wr0 r D st.wr (.slice a7 (All.map (turnI M key b)).length c7)), _, _])
        rw [HLN.out, HMW.out]
        rfl
      · have := HN10.out.1 h0
        rw [HLN.out]
        exact this
      · have h1 := HN10.out.2 a ha
        exact ⟨by omega, Nat.lt_of_lt_of_le h1.2 HFS0.out⟩
end Go.Proofs.Ytioecklnijhjgaa
