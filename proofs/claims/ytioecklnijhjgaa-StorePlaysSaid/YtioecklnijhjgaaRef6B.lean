/- The reference's DoOf: what is refused, and the deeds at a node. (Printed by wip/tools/gen_ref6.py.) -/
import Derived.Test.YtioecklnijhjgaaPlM33
import Derived.StillTailTactics
set_option linter.unusedVariables false
set_option linter.unusedSimpArgs false
namespace Go.Proofs.Ytioecklnijhjgaa
open Go.RowKit

set_option maxRecDepth 100000 in
set_option maxHeartbeats 8000000 in
theorem ref_DoBad {n D k wr0 r : Nat} {All : List It} {st : St} (kind key m : Int) (text : ByteArray) (ht : text.size ≤ 9223372036854775807) (hk1 : 1 ≤ k) (hkn : k ≤ n) (hn : n ≤ 10) (h : Shl n D All st) (ao : Option Addr) (ca : Nat) (w : World) (hR : Reads w ao (itCells All)) (hnone : ao = none → All.length = 0 ∧ ca = 0) (hbad : kind < 1 ∨ 8 < kind ∨ (keyB kind = true ∧ (key < 0 ∨ 2 < key))) :
    Calls Try.prog 9 #[.agg (shC n k wr0 r D st.wr (.slice ao All.length ca)), deedV kind key m text] w (RefPost n k wr0 r ao (doF n k wr0 r st kind key m text) w) := by
  obtain ⟨la, hla⟩ : ∃ la, All.length = la := ⟨_, rfl⟩
  obtain ⟨mw, hmw⟩ : ∃ mw, st.wr = mw := ⟨_, rfl⟩
  rw [hla, hmw]
  have hl3 : la ≤ 30000000 := by rw [← hla]; exact h.len hn
  obtain ⟨W1, hW1⟩ : ∃ W1, (((w.alloc (.cells (shC n k wr0 r D mw (.slice ao la ca)) 33)).alloc (.cells #[.int .i64 kind, .int .i64 key, .int .i64 m, .string text] 36)).alloc (.cells #[.int .i64 0, .int .i64 0, .int .i64 0, .int .i64 0, .int .u16 0, .int .i64 0, .slice none 0 0] 33)).alloc (.cells #[.string ⟨#[]⟩, .int .i64 0, .int .i64 0, .int .i64 0] 40) = W1 := ⟨_, rfl⟩
  have hb0 := below_alloc w (.cells (shC n k wr0 r D mw (.slice ao la ca)) 33)
  have hb1 : Below w.heap.size w W1 := by rw [← hW1]; exact ((hb0.alloc (by simp) _).alloc (by simp; omega) _).alloc (by simp; omega) _
  have hx1 : W1.heap[w.heap.size]? = some (.cells (shC n k wr0 r D mw (.slice ao la ca)) 33 (0, 0)) := by rw [← hW1]; exact heap_alloc_old _ _ (heap_alloc_old _ _ (heap_alloc_old _ _ (heap_alloc_new w _)))
  have hd1 : W1.heap[w.heap.size + 1]? = some (.cells #[.int .i64 kind, .int .i64 key, .int .i64 m, .string text] 36 (0, 0)) := by rw [← hW1]; exact heap_alloc_old _ _ (heap_alloc_old _ _ (heap_new' _ _ _ (by simp)))
  have hz1 : W1.heap[w.heap.size + 2]? = some (.cells #[.int .i64 0, .int .i64 0, .int .i64 0, .int .i64 0, .int .u16 0, .int .i64 0, .slice none 0 0] 33 (0, 0)) := by rw [← hW1]; exact heap_alloc_old _ _ (heap_new' _ _ _ (by simp))
  have ht1 : W1.heap[w.heap.size + 3]? = some (.cells #[.string ⟨#[]⟩, .int .i64 0, .int .i64 0, .int .i64 0] 40 (0, 0)) := by rw [← hW1]; exact heap_new' _ _ _ (by simp)
  have hs1 : W1.heap.size = w.heap.size + 4 := by rw [← hW1]; simp
  have HB1 := Lib.hid hb1
  have HX1 := Lib.hid hx1
  have HD1 := Lib.hid hd1
  have HZ1 := Lib.hid hz1
  have HT1 := Lib.hid ht1
  have HS1 := Lib.hid hs1
  have HLA := Lib.hid hla
  have HMW := Lib.hid hmw
  have HR := Lib.hid hR
  have HNO := Lib.hid hnone
  have HSH := Lib.hid h
  clear h hb0 hb1 hx1 hd1 hz1 ht1 hs1 hla hmw hR hnone
  have hmm := @run_makeMap Try.prog
  obtain ⟨v1, v2, v3, v4, Wm, r1, r2, r3, r4, r5, r6, hbm⟩ := keyed_map Try.underlying67 Try.underlying3 Try.zeroValue4 W1 kind
  have HBM := Lib.hid hbm
  have HB := Lib.hid (HB1.out.trans (hbm.mono HB1.out.size))
  have HX := Lib.hid ((hbm.block w.heap.size (by have := HS1.out; omega)).trans HX1.out)
  have HDd := Lib.hid ((hbm.block (w.heap.size + 1) (by have := HS1.out; omega)).trans HD1.out)
  have HZ := Lib.hid ((hbm.block (w.heap.size + 2) (by have := HS1.out; omega)).trans HZ1.out)
  have HT := Lib.hid ((hbm.block (w.heap.size + 3) (by have := HS1.out; omega)).trans HT1.out)
  have HSZ : Hid (w.heap.size + 4 ≤ Wm.heap.size) := Lib.hid (by have := hbm.size; have := HS1.out; omega)
  have HRm : Hid (Reads Wm ao (itCells All)) := Lib.hid (HR.out.below HB.out)
  clear hbm
  have x0 := heap_cell HX.out 0
  have x1 := heap_cell HX.out 1
  have x2 := heap_cell HX.out 2
  have x3 := heap_cell HX.out 3
  have x4 := heap_cell HX.out 4
  have x5 := heap_cell HX.out 5
  have x6 := heap_cell HX.out 6
  have d0 := heap_cell HDd.out 0
  have d1 := heap_cell HDd.out 1
  have d2 := heap_cell HDd.out 2
  have d3 := heap_cell HDd.out 3
  have bz0 := heap_cell HZ.out 0
  have bz1 := heap_cell HZ.out 1
  have bz2 := heap_cell HZ.out 2
  have bz3 := heap_cell HZ.out 3
  have bz4 := heap_cell HZ.out 4
  have bz5 := heap_cell HZ.out 5
  have bz6 := heap_cell HZ.out 6
  have cz0 := heap_cell HT.out 0
  have cz1 := heap_cell HT.out 1
  have cz2 := heap_cell HT.out 2
  have cz3 := heap_cell HT.out 3
  simp only [List.getElem?_toArray, List.getElem?_cons_zero, List.getElem?_cons_succ] at x0 x1 x2 x3 x4 x5 x6 d0 d1 d2 d3 bz0 bz1 bz2 bz3 bz4 bz5 bz6 cz0 cz1 cz2 cz3
  have fb0 := heap_frozen HZ.out 0
  have fb1 := heap_frozen HZ.out 1
  have fb2 := heap_frozen HZ.out 2
  have fb3 := heap_frozen HZ.out 3
  have fb4 := heap_frozen HZ.out 4
  have fb5 := heap_frozen HZ.out 5
  have fb6 := heap_frozen HZ.out 6
  have fc0 := heap_frozen HT.out 0
  have fc1 := heap_frozen HT.out 1
  have fc2 := heap_frozen HT.out 2
  have fc3 := heap_frozen HT.out 3
  have HF : Hid (doF n k wr0 r st kind key m text = (st, Tl.no, 1)) := Lib.hid (doF_bad hbad)
  by_cases g1 : kind < 1
  · have t1 : decide (kind < 1) = true := decide_eq_true g1
    clear hbad g1
    obtain ⟨qq1, qq2⟩ := two_heaps (A := w.heap.size + 2) (B := w.heap.size + 3) (by omega) HZ.out HT.out (.int .i64 (n : Int)) (.int .i64 (k : Int)) (.int .i64 (wr0 : Int)) (.int .i64 (r : Int)) (.int .u16 (D : Int)) (.int .i64 (mw : Int)) (.slice ao la ca) (.string ⟨#[]⟩) (.int .i64 0) (.int .i64 0) (.int .i64 0)
    have y0 := heap_cell qq1 0
    have y1 := heap_cell qq1 1
    have y2 := heap_cell qq1 2
    have y3 := heap_cell qq1 3
    have y4 := heap_cell qq1 4
    have y5 := heap_cell qq1 5
    have y6 := heap_cell qq1 6
    have z0 := heap_cell qq2 0
    have z1 := heap_cell qq2 1
    have z2 := heap_cell qq2 2
    have z3 := heap_cell qq2 3
    simp only [List.getElem?_toArray, List.getElem?_cons_zero, List.getElem?_cons_succ] at y0 y1 y2 y3 y4 y5 y6 z0 z1 z2 z3
    clear qq1 qq2
    have HBZ := Lib.hid (below_four (below_seven HB.out (show w.heap.size ≤ w.heap.size + 2 by omega) (.int .i64 (n : Int)) (.int .i64 (k : Int)) (.int .i64 (wr0 : Int)) (.int .i64 (r : Int)) (.int .u16 (D : Int)) (.int .i64 (mw : Int)) (.slice ao la ca)) (show w.heap.size ≤ w.heap.size + 3 by omega) (.string ⟨#[]⟩) (.int .i64 0) (.int .i64 0) (.int .i64 0))
    go_enter Try.func9, Try.ntmps9
    go_wp2_with fail

    refine bodyPost_ret (v := .tuple #[.agg (shC n k wr0 r D mw (.slice ao la ca)), .agg #[.string ⟨#[]⟩, .int .i64 0, .int .i64 0, .int .i64 0], .int .i64 1]) (by simp [results, Try.results9, go_sem, y0, y1, y2, y3, y4, y5, y6, z0, z1, z2, z3]; try rfl) rfl ?_
    rw [HF.out]
    exact ⟨D, All, ao, ca, by rw [HLA.out, HMW.out]; rfl, HSH.out, HR.out.below HBZ.out, HNO.out, .inl rfl, HBZ.out⟩
  have t1 : decide (kind < 1) = false := decide_eq_false g1
  by_cases g2 : 8 < kind
  · have t2 : decide (8 < kind) = true := decide_eq_true g2
    clear hbad g1 g2
    obtain ⟨qq1, qq2⟩ := two_heaps (A := w.heap.size + 2) (B := w.heap.size + 3) (by omega) HZ.out HT.out (.int .i64 (n : Int)) (.int .i64 (k : Int)) (.int .i64 (wr0 : Int)) (.int .i64 (r : Int)) (.int .u16 (D : Int)) (.int .i64 (mw : Int)) (.slice ao la ca) (.string ⟨#[]⟩) (.int .i64 0) (.int .i64 0) (.int .i64 0)
    have y0 := heap_cell qq1 0
    have y1 := heap_cell qq1 1
    have y2 := heap_cell qq1 2
    have y3 := heap_cell qq1 3
    have y4 := heap_cell qq1 4
    have y5 := heap_cell qq1 5
    have y6 := heap_cell qq1 6
    have z0 := heap_cell qq2 0
    have z1 := heap_cell qq2 1
    have z2 := heap_cell qq2 2
    have z3 := heap_cell qq2 3
    simp only [List.getElem?_toArray, List.getElem?_cons_zero, List.getElem?_cons_succ] at y0 y1 y2 y3 y4 y5 y6 z0 z1 z2 z3
    clear qq1 qq2
    have HBZ := Lib.hid (below_four (below_seven HB.out (show w.heap.size ≤ w.heap.size + 2 by omega) (.int .i64 (n : Int)) (.int .i64 (k : Int)) (.int .i64 (wr0 : Int)) (.int .i64 (r : Int)) (.int .u16 (D : Int)) (.int .i64 (mw : Int)) (.slice ao la ca)) (show w.heap.size ≤ w.heap.size + 3 by omega) (.string ⟨#[]⟩) (.int .i64 0) (.int .i64 0) (.int .i64 0))
    go_enter Try.func9, Try.ntmps9
    go_wp2_with fail

    refine bodyPost_ret (v := .tuple #[.agg (shC n k wr0 r D mw (.slice ao la ca)), .agg #[.string ⟨#[]⟩, .int .i64 0, .int .i64 0, .int .i64 0], .int .i64 1]) (by simp [results, Try.results9, go_sem, y0, y1, y2, y3, y4, y5, y6, z0, z1, z2, z3]; try rfl) rfl ?_
    rw [HF.out]
    exact ⟨D, All, ao, ca, by rw [HLA.out, HMW.out]; rfl, HSH.out, HR.out.below HBZ.out, HNO.out, .inl rfl, HBZ.out⟩
  have t2 : decide (8 < kind) = false := decide_eq_false g2
  have hkb : keyB kind = true := by rcases hbad with h | h | h; exact absurd h g1; exact absurd h g2; exact h.1
  rw [hkb] at r6
  by_cases g3 : key < 0
  · have t3 : decide (key < 0) = true := decide_eq_true g3
    clear hbad g1 g2 g3 hkb
    obtain ⟨qq1, qq2⟩ := two_heaps (A := w.heap.size + 2) (B := w.heap.size + 3) (by omega) HZ.out HT.out (.int .i64 (n : Int)) (.int .i64 (k : Int)) (.int .i64 (wr0 : Int)) (.int .i64 (r : Int)) (.int .u16 (D : Int)) (.int .i64 (mw : Int)) (.slice ao la ca) (.string ⟨#[]⟩) (.int .i64 0) (.int .i64 0) (.int .i64 0)
    have y0 := heap_cell qq1 0
    have y1 := heap_cell qq1 1
    have y2 := heap_cell qq1 2
    have y3 := heap_cell qq1 3
    have y4 := heap_cell qq1 4
    have y5 := heap_cell qq1 5
    have y6 := heap_cell qq1 6
    have z0 := heap_cell qq2 0
    have z1 := heap_cell qq2 1
    have z2 := heap_cell qq2 2
    have z3 := heap_cell qq2 3
    simp only [List.getElem?_toArray, List.getElem?_cons_zero, List.getElem?_cons_succ] at y0 y1 y2 y3 y4 y5 y6 z0 z1 z2 z3
    clear qq1 qq2
    have HBZ := Lib.hid (below_four (below_seven HB.out (show w.heap.size ≤ w.heap.size + 2 by omega) (.int .i64 (n : Int)) (.int .i64 (k : Int)) (.int .i64 (wr0 : Int)) (.int .i64 (r : Int)) (.int .u16 (D : Int)) (.int .i64 (mw : Int)) (.slice ao la ca)) (show w.heap.size ≤ w.heap.size + 3 by omega) (.string ⟨#[]⟩) (.int .i64 0) (.int .i64 0) (.int .i64 0))
    go_enter Try.func9, Try.ntmps9
    go_wp2_with fail

    refine bodyPost_ret (v := .tuple #[.agg (shC n k wr0 r D mw (.slice ao la ca)), .agg #[.string ⟨#[]⟩, .int .i64 0, .int .i64 0, .int .i64 0], .int .i64 1]) (by simp [results, Try.results9, go_sem, y0, y1, y2, y3, y4, y5, y6, z0, z1, z2, z3]; try rfl) rfl ?_
    rw [HF.out]
    exact ⟨D, All, ao, ca, by rw [HLA.out, HMW.out]; rfl, HSH.out, HR.out.below HBZ.out, HNO.out, .inl rfl, HBZ.out⟩
  have t3 : decide (key < 0) = false := decide_eq_false g3
  have t4 : decide (2 < key) = true := decide_eq_true (by rcases hbad with h | h | h; exact absurd h g1; exact absurd h g2; rcases h.2 with h | h; exact absurd h g3; exact h)
  clear hbad g1 g2 g3 hkb
  obtain ⟨qq1, qq2⟩ := two_heaps (A := w.heap.size + 2) (B := w.heap.size + 3) (by omega) HZ.out HT.out (.int .i64 (n : Int)) (.int .i64 (k : Int)) (.int .i64 (wr0 : Int)) (.int .i64 (r : Int)) (.int .u16 (D : Int)) (.int .i64 (mw : Int)) (.slice ao la ca) (.string ⟨#[]⟩) (.int .i64 0) (.int .i64 0) (.int .i64 0)
  have y0 := heap_cell qq1 0
  have y1 := heap_cell qq1 1
  have y2 := heap_cell qq1 2
  have y3 := heap_cell qq1 3
  have y4 := heap_cell qq1 4
  have y5 := heap_cell qq1 5
  have y6 := heap_cell qq1 6
  have z0 := heap_cell qq2 0
  have z1 := heap_cell qq2 1
  have z2 := heap_cell qq2 2
  have z3 := heap_cell qq2 3
  simp only [List.getElem?_toArray, List.getElem?_cons_zero, List.getElem?_cons_succ] at y0 y1 y2 y3 y4 y5 y6 z0 z1 z2 z3
  clear qq1 qq2
  have HBZ := Lib.hid (below_four (below_seven HB.out (show w.heap.size ≤ w.heap.size + 2 by omega) (.int .i64 (n : Int)) (.int .i64 (k : Int)) (.int .i64 (wr0 : Int)) (.int .i64 (r : Int)) (.int .u16 (D : Int)) (.int .i64 (mw : Int)) (.slice ao la ca)) (show w.heap.size ≤ w.heap.size + 3 by omega) (.string ⟨#[]⟩) (.int .i64 0) (.int .i64 0) (.int .i64 0))
  go_enter Try.func9, Try.ntmps9
  go_wp2_with fail

  refine bodyPost_ret (v := .tuple #[.agg (shC n k wr0 r D mw (.slice ao la ca)), .agg #[.string ⟨#[]⟩, .int .i64 0, .int .i64 0, .int .i64 0], .int .i64 1]) (by simp [results, Try.results9, go_sem, y0, y1, y2, y3, y4, y5, y6, z0, z1, z2, z3]; try rfl) rfl ?_
  rw [HF.out]
  exact ⟨D, All, ao, ca, by rw [HLA.out, HMW.out]; rfl, HSH.out, HR.out.below HBZ.out, HNO.out, .inl rfl, HBZ.out⟩
set_option maxRecDepth 100000 in
set_option maxHeartbeats 8000000 in
theorem ref_Do4 {n D k wr0 r : Nat} {All : List It} {st : St} (key m : Int) (text : ByteArray) (ht : text.size ≤ 9223372036854775807) (hk1 : 1 ≤ k) (hkn : k ≤ n) (hn : n ≤ 10) (h : Shl n D All st) (ao : Option Addr) (ca : Nat) (w : World) (hR : Reads w ao (itCells All)) (hnone : ao = none → All.length = 0 ∧ ca = 0) :
    Calls Try.prog 9 #[.agg (shC n k wr0 r D st.wr (.slice ao All.length ca)), deedV 4 key m text] w (RefPost n k wr0 r ao (doF n k wr0 r st 4 key m text) w) := by
  obtain ⟨la, hla⟩ : ∃ la, All.length = la := ⟨_, rfl⟩
  obtain ⟨mw, hmw⟩ : ∃ mw, st.wr = mw := ⟨_, rfl⟩
  rw [hla, hmw]
  have hl3 : la ≤ 30000000 := by rw [← hla]; exact h.len hn
  obtain ⟨W1, hW1⟩ : ∃ W1, (((w.alloc (.cells (shC n k wr0 r D mw (.slice ao la ca)) 33)).alloc (.cells #[.int .i64 4, .int .i64 key, .int .i64 m, .string text] 36)).alloc (.cells #[.int .i64 0, .int .i64 0, .int .i64 0, .int .i64 0, .int .u16 0, .int .i64 0, .slice none 0 0] 33)).alloc (.cells #[.string ⟨#[]⟩, .int .i64 0, .int .i64 0, .int .i64 0] 40) = W1 := ⟨_, rfl⟩
  have hb0 := below_alloc w (.cells (shC n k wr0 r D mw (.slice ao la ca)) 33)
  have hb1 : Below w.heap.size w W1 := by rw [← hW1]; exact ((hb0.alloc (by simp) _).alloc (by simp; omega) _).alloc (by simp; omega) _
  have hx1 : W1.heap[w.heap.size]? = some (.cells (shC n k wr0 r D mw (.slice ao la ca)) 33 (0, 0)) := by rw [← hW1]; exact heap_alloc_old _ _ (heap_alloc_old _ _ (heap_alloc_old _ _ (heap_alloc_new w _)))
  have hd1 : W1.heap[w.heap.size + 1]? = some (.cells #[.int .i64 4, .int .i64 key, .int .i64 m, .string text] 36 (0, 0)) := by rw [← hW1]; exact heap_alloc_old _ _ (heap_alloc_old _ _ (heap_new' _ _ _ (by simp)))
  have hz1 : W1.heap[w.heap.size + 2]? = some (.cells #[.int .i64 0, .int .i64 0, .int .i64 0, .int .i64 0, .int .u16 0, .int .i64 0, .slice none 0 0] 33 (0, 0)) := by rw [← hW1]; exact heap_alloc_old _ _ (heap_new' _ _ _ (by simp))
  have ht1 : W1.heap[w.heap.size + 3]? = some (.cells #[.string ⟨#[]⟩, .int .i64 0, .int .i64 0, .int .i64 0] 40 (0, 0)) := by rw [← hW1]; exact heap_new' _ _ _ (by simp)
  have hs1 : W1.heap.size = w.heap.size + 4 := by rw [← hW1]; simp
  have HB1 := Lib.hid hb1
  have HX1 := Lib.hid hx1
  have HD1 := Lib.hid hd1
  have HZ1 := Lib.hid hz1
  have HT1 := Lib.hid ht1
  have HS1 := Lib.hid hs1
  have HLA := Lib.hid hla
  have HMW := Lib.hid hmw
  have HR := Lib.hid hR
  have HNO := Lib.hid hnone
  have HSH := Lib.hid h
  clear h hb0 hb1 hx1 hd1 hz1 ht1 hs1 hla hmw hR hnone
  have hmm := @run_makeMap Try.prog
  obtain ⟨v1, v2, v3, v4, Wm, r1, r2, r3, r4, r5, r6, hbm⟩ := keyed_map Try.underlying67 Try.underlying3 Try.zeroValue4 W1 4
  have HBM := Lib.hid hbm
  have HB := Lib.hid (HB1.out.trans (hbm.mono HB1.out.size))
  have HX := Lib.hid ((hbm.block w.heap.size (by have := HS1.out; omega)).trans HX1.out)
  have HDd := Lib.hid ((hbm.block (w.heap.size + 1) (by have := HS1.out; omega)).trans HD1.out)
  have HZ := Lib.hid ((hbm.block (w.heap.size + 2) (by have := HS1.out; omega)).trans HZ1.out)
  have HT := Lib.hid ((hbm.block (w.heap.size + 3) (by have := HS1.out; omega)).trans HT1.out)
  have HSZ : Hid (w.heap.size + 4 ≤ Wm.heap.size) := Lib.hid (by have := hbm.size; have := HS1.out; omega)
  have HRm : Hid (Reads Wm ao (itCells All)) := Lib.hid (HR.out.below HB.out)
  clear hbm
  have x0 := heap_cell HX.out 0
  have x1 := heap_cell HX.out 1
  have x2 := heap_cell HX.out 2
  have x3 := heap_cell HX.out 3
  have x4 := heap_cell HX.out 4
  have x5 := heap_cell HX.out 5
  have x6 := heap_cell HX.out 6
  have d0 := heap_cell HDd.out 0
  have d1 := heap_cell HDd.out 1
  have d2 := heap_cell HDd.out 2
  have d3 := heap_cell HDd.out 3
  have bz0 := heap_cell HZ.out 0
  have bz1 := heap_cell HZ.out 1
  have bz2 := heap_cell HZ.out 2
  have bz3 := heap_cell HZ.out 3
  have bz4 := heap_cell HZ.out 4
  have bz5 := heap_cell HZ.out 5
  have bz6 := heap_cell HZ.out 6
  have cz0 := heap_cell HT.out 0
  have cz1 := heap_cell HT.out 1
  have cz2 := heap_cell HT.out 2
  have cz3 := heap_cell HT.out 3
  simp only [List.getElem?_toArray, List.getElem?_cons_zero, List.getElem?_cons_succ] at x0 x1 x2 x3 x4 x5 x6 d0 d1 d2 d3 bz0 bz1 bz2 bz3 bz4 bz5 bz6 cz0 cz1 cz2 cz3
  have fb0 := heap_frozen HZ.out 0
  have fb1 := heap_frozen HZ.out 1
  have fb2 := heap_frozen HZ.out 2
  have fb3 := heap_frozen HZ.out 3
  have fb4 := heap_frozen HZ.out 4
  have fb5 := heap_frozen HZ.out 5
  have fb6 := heap_frozen HZ.out 6
  have fc0 := heap_frozen HT.out 0
  have fc1 := heap_frozen HT.out 1
  have fc2 := heap_frozen HT.out 2
  have fc3 := heap_frozen HT.out 3
  rw [show keyB 4 = false from rfl] at r6
  have HDO : Hid (doF n k wr0 r st 4 key m text = ((atF n st 4 key.toNat m).1, Tl.no, (atF n st 4 key.toNat m).2)) := Lib.hid (by
    unfold doF
    rw [if_neg (by unfold keyedB; simp), if_neg (by decide), if_neg (by decide), if_neg (by decide), if_neg (by decide)])
  by_cases g1 : m < 0
  · have HF : Hid (doF n k wr0 r st 4 key m text = (st, Tl.no, 1)) := Lib.hid (by rw [HDO.out]; unfold atF; rw [if_pos (.inl g1)])
    have t1 : decide (m < 0) = true := decide_eq_true g1
    clear g1
    obtain ⟨qq1, qq2⟩ := two_heaps (A := w.heap.size + 2) (B := w.heap.size + 3) (by omega) HZ.out HT.out (.int .i64 (n : Int)) (.int .i64 (k : Int)) (.int .i64 (wr0 : Int)) (.int .i64 (r : Int)) (.int .u16 (D : Int)) (.int .i64 (mw : Int)) (.slice ao la ca) (.string ⟨#[]⟩) (.int .i64 0) (.int .i64 0) (.int .i64 0)
    have y0 := heap_cell qq1 0
    have y1 := heap_cell qq1 1
    have y2 := heap_cell qq1 2
    have y3 := heap_cell qq1 3
    have y4 := heap_cell qq1 4
    have y5 := heap_cell qq1 5
    have y6 := heap_cell qq1 6
    have z0 := heap_cell qq2 0
    have z1 := heap_cell qq2 1
    have z2 := heap_cell qq2 2
    have z3 := heap_cell qq2 3
    simp only [List.getElem?_toArray, List.getElem?_cons_zero, List.getElem?_cons_succ] at y0 y1 y2 y3 y4 y5 y6 z0 z1 z2 z3
    clear qq1 qq2
    have HBZ := Lib.hid (below_four (below_seven HB.out (show w.heap.size ≤ w.heap.size + 2 by omega) (.int .i64 (n : Int)) (.int .i64 (k : Int)) (.int .i64 (wr0 : Int)) (.int .i64 (r : Int)) (.int .u16 (D : Int)) (.int .i64 (mw : Int)) (.slice ao la ca)) (show w.heap.size ≤ w.heap.size + 3 by omega) (.string ⟨#[]⟩) (.int .i64 0) (.int .i64 0) (.int .i64 0))
    go_enter Try.func9, Try.ntmps9
    go_wp2_with fail

    refine bodyPost_ret (v := .tuple #[.agg (shC n k wr0 r D mw (.slice ao la ca)), .agg #[.string ⟨#[]⟩, .int .i64 0, .int .i64 0, .int .i64 0], .int .i64 1]) (by simp [results, Try.results9, go_sem, y0, y1, y2, y3, y4, y5, y6, z0, z1, z2, z3]; try rfl) rfl ?_
    rw [HF.out]
    exact ⟨D, All, ao, ca, by rw [HLA.out, HMW.out]; rfl, HSH.out, HR.out.below HBZ.out, HNO.out, .inl rfl, HBZ.out⟩
  have t1 : decide (m < 0) = false := decide_eq_false g1
  by_cases g2 : (n : Int) ≤ m
  · have HF : Hid (doF n k wr0 r st 4 key m text = (st, Tl.no, 1)) := Lib.hid (by rw [HDO.out]; unfold atF; rw [if_pos (.inr g2)])
    have t2 : decide ((n : Int) ≤ m) = true := decide_eq_true g2
    clear g1 g2
    obtain ⟨qq1, qq2⟩ := two_heaps (A := w.heap.size + 2) (B := w.heap.size + 3) (by omega) HZ.out HT.out (.int .i64 (n : Int)) (.int .i64 (k : Int)) (.int .i64 (wr0 : Int)) (.int .i64 (r : Int)) (.int .u16 (D : Int)) (.int .i64 (mw : Int)) (.slice ao la ca) (.string ⟨#[]⟩) (.int .i64 0) (.int .i64 0) (.int .i64 0)
    have y0 := heap_cell qq1 0
    have y1 := heap_cell qq1 1
    have y2 := heap_cell qq1 2
    have y3 := heap_cell qq1 3
    have y4 := heap_cell qq1 4
    have y5 := heap_cell qq1 5
    have y6 := heap_cell qq1 6
    have z0 := heap_cell qq2 0
    have z1 := heap_cell qq2 1
    have z2 := heap_cell qq2 2
    have z3 := heap_cell qq2 3
    simp only [List.getElem?_toArray, List.getElem?_cons_zero, List.getElem?_cons_succ] at y0 y1 y2 y3 y4 y5 y6 z0 z1 z2 z3
    clear qq1 qq2
    have HBZ := Lib.hid (below_four (below_seven HB.out (show w.heap.size ≤ w.heap.size + 2 by omega) (.int .i64 (n : Int)) (.int .i64 (k : Int)) (.int .i64 (wr0 : Int)) (.int .i64 (r : Int)) (.int .u16 (D : Int)) (.int .i64 (mw : Int)) (.slice ao la ca)) (show w.heap.size ≤ w.heap.size + 3 by omega) (.string ⟨#[]⟩) (.int .i64 0) (.int .i64 0) (.int .i64 0))
    go_enter Try.func9, Try.ntmps9
    go_wp2_with fail

    refine bodyPost_ret (v := .tuple #[.agg (shC n k wr0 r D mw (.slice ao la ca)), .agg #[.string ⟨#[]⟩, .int .i64 0, .int .i64 0, .int .i64 0], .int .i64 1]) (by simp [results, Try.results9, go_sem, y0, y1, y2, y3, y4, y5, y6, z0, z1, z2, z3]; try rfl) rfl ?_
    rw [HF.out]
    exact ⟨D, All, ao, ca, by rw [HLA.out, HMW.out]; rfl, HSH.out, HR.out.below HBZ.out, HNO.out, .inl rfl, HBZ.out⟩
  obtain ⟨M, rfl⟩ : ∃ M : Nat, m = M := ⟨m.toNat, by omega⟩
  have hMn : M < n := by omega
  have t2 : decide ((n : Int) ≤ (M : Int)) = false := decide_eq_false g2
  have t2' : decide (n ≤ M) = false := decide_eq_false (by omega)
  have HAT : Hid (atF n st 4 key.toNat (M : Int) = (st.down M true, 0)) := Lib.hid (by
    unfold atF
    rw [if_neg (by omega), if_pos rfl, Int.toNat_natCast])
  clear g1 g2
  have m0 : (0 : Int) ≤ (M : Int) := by omega
  have m1 : (M : Int) ≤ 16 := by omega
  have HF : Hid (doF n k wr0 r st 4 key (M : Int) text = (st.down M true, Tl.no, 0)) := Lib.hid (by rw [HDO.out, HAT.out])
  have HD16 : Hid (D < 65536) := Lib.hid HSH.out.d
  have HSN := Lib.hid (HSH.out.down (show M < 16 by omega))
  obtain ⟨P, hP⟩ : ∃ P, 2 ^ M = P := ⟨_, rfl⟩
  rw [hP] at HSN
  have hP16 : P < 65536 := by rw [← hP]; exact two_lt (by omega)
  have e0 : ((2 : Int) ^ M) = (P : Int) := by rw [← hP]; push_cast; rfl
  have e1 : IntKind.u16.wrap (P : Int) = (P : Int) := wrap_u16 P hP16
  obtain ⟨N, hN⟩ : ∃ N, D ||| P = N := ⟨_, rfl⟩
  have e2 : bits .or .u16 (D : Int) (P : Int) = (N : Int) := by rw [← hN]; exact u16_or_nat D P HD16.out hP16
  rw [hN] at HSN
  clear hP hN
  have fx4 := heap_frozen HX.out 4
  have HX9 : Hid ((Wm.drew.setCell ⟨w.heap.size, 4, none⟩ (.int .u16 (N : Int))).heap[w.heap.size]? = some (.cells (shC n k wr0 r N mw (.slice ao la ca)) 33 (0, 0))) := Lib.hid (by rw [heap_set _ (heap_drew HX.out)]; rfl)
  have HZ9 : Hid ((Wm.drew.setCell ⟨w.heap.size, 4, none⟩ (.int .u16 (N : Int))).heap[w.heap.size + 2]? = some (.cells #[.int .i64 0, .int .i64 0, .int .i64 0, .int .i64 0, .int .u16 0, .int .i64 0, .slice none 0 0] 33 (0, 0))) := Lib.hid (by rw [heap_set_far _ (by omega)]; exact heap_drew HZ.out)
  have HT9 : Hid ((Wm.drew.setCell ⟨w.heap.size, 4, none⟩ (.int .u16 (N : Int))).heap[w.heap.size + 3]? = some (.cells #[.string ⟨#[]⟩, .int .i64 0, .int .i64 0, .int .i64 0] 40 (0, 0))) := Lib.hid (by rw [heap_set_far _ (by omega)]; exact heap_drew HT.out)
  have HB9 : Hid (Below w.heap.size w (Wm.drew.setCell ⟨w.heap.size, 4, none⟩ (.int .u16 (N : Int)))) := Lib.hid (below_set (below_drew1 HB.out) (Nat.le_refl _) _)
  go_enter Try.func9, Try.ntmps9
  go_wp2_with fail
  go_still_tail 7, (by kernel_rfl)
  change wpList _ _ _ _ _ (World.drew _)
  obtain ⟨W9, hW9⟩ : ∃ W9, Wm.drew.setCell ⟨w.heap.size, 4, none⟩ (.int .u16 (N : Int)) = W9 := ⟨_, rfl⟩
  rw [hW9] at HX9 HZ9 HT9 HB9
  clear bz0 bz1 bz2 bz3 bz4 bz5 bz6 cz0 cz1 cz2 cz3 fb0 fb1 fb2 fb3 fb4 fb5 fb6 fc0 fc1 fc2 fc3
  have xn0 := heap_cell HX9.out 0
  have xn1 := heap_cell HX9.out 1
  have xn2 := heap_cell HX9.out 2
  have xn3 := heap_cell HX9.out 3
  have xn4 := heap_cell HX9.out 4
  have xn5 := heap_cell HX9.out 5
  have xn6 := heap_cell HX9.out 6
  simp only [List.getElem?_toArray, List.getElem?_cons_zero, List.getElem?_cons_succ] at xn0 xn1 xn2 xn3 xn4 xn5 xn6
  have bz0 := heap_cell HZ9.out 0
  have bz1 := heap_cell HZ9.out 1
  have bz2 := heap_cell HZ9.out 2
  have bz3 := heap_cell HZ9.out 3
  have bz4 := heap_cell HZ9.out 4
  have bz5 := heap_cell HZ9.out 5
  have bz6 := heap_cell HZ9.out 6
  have cz0 := heap_cell HT9.out 0
  have cz1 := heap_cell HT9.out 1
  have cz2 := heap_cell HT9.out 2
  have cz3 := heap_cell HT9.out 3
  simp only [List.getElem?_toArray, List.getElem?_cons_zero, List.getElem?_cons_succ] at bz0 bz1 bz2 bz3 bz4 bz5 bz6 cz0 cz1 cz2 cz3
  have fb0 := heap_frozen HZ9.out 0
  have fb1 := heap_frozen HZ9.out 1
  have fb2 := heap_frozen HZ9.out 2
  have fb3 := heap_frozen HZ9.out 3
  have fb4 := heap_frozen HZ9.out 4
  have fb5 := heap_frozen HZ9.out 5
  have fb6 := heap_frozen HZ9.out 6
  have fc0 := heap_frozen HT9.out 0
  have fc1 := heap_frozen HT9.out 1
  have fc2 := heap_frozen HT9.out 2
  have fc3 := heap_frozen HT9.out 3
  obtain ⟨qq1, qq2⟩ := two_heaps (A := w.heap.size + 2) (B := w.heap.size + 3) (by omega) HZ9.out HT9.out (.int .i64 (n : Int)) (.int .i64 (k : Int)) (.int .i64 (wr0 : Int)) (.int .i64 (r : Int)) (.int .u16 (N : Int)) (.int .i64 (mw : Int)) (.slice ao la ca) (.string ⟨#[]⟩) (.int .i64 0) (.int .i64 0) (.int .i64 0)
  have y0 := heap_cell qq1 0
  have y1 := heap_cell qq1 1
  have y2 := heap_cell qq1 2
  have y3 := heap_cell qq1 3
  have y4 := heap_cell qq1 4
  have y5 := heap_cell qq1 5
  have y6 := heap_cell qq1 6
  have z0 := heap_cell qq2 0
  have z1 := heap_cell qq2 1
  have z2 := heap_cell qq2 2
  have z3 := heap_cell qq2 3
  simp only [List.getElem?_toArray, List.getElem?_cons_zero, List.getElem?_cons_succ] at y0 y1 y2 y3 y4 y5 y6 z0 z1 z2 z3
  clear qq1 qq2
  have HBZ := Lib.hid (below_four (below_seven HB9.out (show w.heap.size ≤ w.heap.size + 2 by omega) (.int .i64 (n : Int)) (.int .i64 (k : Int)) (.int .i64 (wr0 : Int)) (.int .i64 (r : Int)) (.int .u16 (N : Int)) (.int .i64 (mw : Int)) (.slice ao la ca)) (show w.heap.size ≤ w.heap.size + 3 by omega) (.string ⟨#[]⟩) (.int .i64 0) (.int .i64 0) (.int .i64 0))
  have HFS0 := Lib.hid (below_four (below_seven (Below.refl 0 W9) (Nat.zero_le (w.heap.size + 2)) (.int .i64 (n : Int)) (.int .i64 (k : Int)) (.int .i64 (wr0 : Int)) (.int .i64 (r : Int)) (.int .u16 (N : Int)) (.int .i64 (mw : Int)) (.slice ao la ca)) (Nat.zero_le (w.heap.size + 3)) (.string ⟨#[]⟩) (.int .i64 0) (.int .i64 0) (.int .i64 0)).size
  go_wp2_with fail
  refine bodyPost_ret (v := .tuple #[.agg (shC n k wr0 r N mw (.slice ao la ca)), .agg #[.string ⟨#[]⟩, .int .i64 0, .int .i64 0, .int .i64 0], .int .i64 0]) (by simp [results, Try.results9, go_sem, y0, y1, y2, y3, y4, y5, y6, z0, z1, z2, z3]; try rfl) rfl ?_
  rw [HF.out]
  exact ⟨N, All, ao, ca, by rw [HLA.out]; show _ = Ending.returned (.tuple #[.agg (shC n k wr0 r N st.wr (.slice ao la ca)), _, _]); rw [HMW.out]; rfl, HSN.out, HR.out.below HBZ.out, HNO.out, .inl rfl, HBZ.out⟩
set_option maxRecDepth 100000 in
set_option maxHeartbeats 8000000 in
theorem ref_Do5 {n D k wr0 r : Nat} {All : List It} {st : St} (key m : Int) (text : ByteArray) (ht : text.size ≤ 9223372036854775807) (hk1 : 1 ≤ k) (hkn : k ≤ n) (hn : n ≤ 10) (h : Shl n D All st) (ao : Option Addr) (ca : Nat) (w : World) (hR : Reads w ao (itCells All)) (hnone : ao = none → All.length = 0 ∧ ca = 0) :
    Calls Try.prog 9 #[.agg (shC n k wr0 r D st.wr (.slice ao All.length ca)), deedV 5 key m text] w (RefPost n k wr0 r ao (doF n k wr0 r st 5 key m text) w) := by
  obtain ⟨la, hla⟩ : ∃ la, All.length = la := ⟨_, rfl⟩
  obtain ⟨mw, hmw⟩ : ∃ mw, st.wr = mw := ⟨_, rfl⟩
  rw [hla, hmw]
  have hl3 : la ≤ 30000000 := by rw [← hla]; exact h.len hn
  obtain ⟨W1, hW1⟩ : ∃ W1, (((w.alloc (.cells (shC n k wr0 r D mw (.slice ao la ca)) 33)).alloc (.cells #[.int .i64 5, .int .i64 key, .int .i64 m, .string text] 36)).alloc (.cells #[.int .i64 0, .int .i64 0, .int .i64 0, .int .i64 0, .int .u16 0, .int .i64 0, .slice none 0 0] 33)).alloc (.cells #[.string ⟨#[]⟩, .int .i64 0, .int .i64 0, .int .i64 0] 40) = W1 := ⟨_, rfl⟩
  have hb0 := below_alloc w (.cells (shC n k wr0 r D mw (.slice ao la ca)) 33)
  have hb1 : Below w.heap.size w W1 := by rw [← hW1]; exact ((hb0.alloc (by simp) _).alloc (by simp; omega) _).alloc (by simp; omega) _
  have hx1 : W1.heap[w.heap.size]? = some (.cells (shC n k wr0 r D mw (.slice ao la ca)) 33 (0, 0)) := by rw [← hW1]; exact heap_alloc_old _ _ (heap_alloc_old _ _ (heap_alloc_old _ _ (heap_alloc_new w _)))
  have hd1 : W1.heap[w.heap.size + 1]? = some (.cells #[.int .i64 5, .int .i64 key, .int .i64 m, .string text] 36 (0, 0)) := by rw [← hW1]; exact heap_alloc_old _ _ (heap_alloc_old _ _ (heap_new' _ _ _ (by simp)))
  have hz1 : W1.heap[w.heap.size + 2]? = some (.cells #[.int .i64 0, .int .i64 0, .int .i64 0, .int .i64 0, .int .u16 0, .int .i64 0, .slice none 0 0] 33 (0, 0)) := by rw [← hW1]; exact heap_alloc_old _ _ (heap_new' _ _ _ (by simp))
  have ht1 : W1.heap[w.heap.size + 3]? = some (.cells #[.string ⟨#[]⟩, .int .i64 0, .int .i64 0, .int .i64 0] 40 (0, 0)) := by rw [← hW1]; exact heap_new' _ _ _ (by simp)
  have hs1 : W1.heap.size = w.heap.size + 4 := by rw [← hW1]; simp
  have HB1 := Lib.hid hb1
  have HX1 := Lib.hid hx1
  have HD1 := Lib.hid hd1
  have HZ1 := Lib.hid hz1
  have HT1 := Lib.hid ht1
  have HS1 := Lib.hid hs1
  have HLA := Lib.hid hla
  have HMW := Lib.hid hmw
  have HR := Lib.hid hR
  have HNO := Lib.hid hnone
  have HSH := Lib.hid h
  clear h hb0 hb1 hx1 hd1 hz1 ht1 hs1 hla hmw hR hnone
  have hmm := @run_makeMap Try.prog
  obtain ⟨v1, v2, v3, v4, Wm, r1, r2, r3, r4, r5, r6, hbm⟩ := keyed_map Try.underlying67 Try.underlying3 Try.zeroValue4 W1 5
  have HBM := Lib.hid hbm
  have HB := Lib.hid (HB1.out.trans (hbm.mono HB1.out.size))
  have HX := Lib.hid ((hbm.block w.heap.size (by have := HS1.out; omega)).trans HX1.out)
  have HDd := Lib.hid ((hbm.block (w.heap.size + 1) (by have := HS1.out; omega)).trans HD1.out)
  have HZ := Lib.hid ((hbm.block (w.heap.size + 2) (by have := HS1.out; omega)).trans HZ1.out)
  have HT := Lib.hid ((hbm.block (w.heap.size + 3) (by have := HS1.out; omega)).trans HT1.out)
  have HSZ : Hid (w.heap.size + 4 ≤ Wm.heap.size) := Lib.hid (by have := hbm.size; have := HS1.out; omega)
  have HRm : Hid (Reads Wm ao (itCells All)) := Lib.hid (HR.out.below HB.out)
  clear hbm
  have x0 := heap_cell HX.out 0
  have x1 := heap_cell HX.out 1
  have x2 := heap_cell HX.out 2
  have x3 := heap_cell HX.out 3
  have x4 := heap_cell HX.out 4
  have x5 := heap_cell HX.out 5
  have x6 := heap_cell HX.out 6
  have d0 := heap_cell HDd.out 0
  have d1 := heap_cell HDd.out 1
  have d2 := heap_cell HDd.out 2
  have d3 := heap_cell HDd.out 3
  have bz0 := heap_cell HZ.out 0
  have bz1 := heap_cell HZ.out 1
  have bz2 := heap_cell HZ.out 2
  have bz3 := heap_cell HZ.out 3
  have bz4 := heap_cell HZ.out 4
  have bz5 := heap_cell HZ.out 5
  have bz6 := heap_cell HZ.out 6
  have cz0 := heap_cell HT.out 0
  have cz1 := heap_cell HT.out 1
  have cz2 := heap_cell HT.out 2
  have cz3 := heap_cell HT.out 3
  simp only [List.getElem?_toArray, List.getElem?_cons_zero, List.getElem?_cons_succ] at x0 x1 x2 x3 x4 x5 x6 d0 d1 d2 d3 bz0 bz1 bz2 bz3 bz4 bz5 bz6 cz0 cz1 cz2 cz3
  have fb0 := heap_frozen HZ.out 0
  have fb1 := heap_frozen HZ.out 1
  have fb2 := heap_frozen HZ.out 2
  have fb3 := heap_frozen HZ.out 3
  have fb4 := heap_frozen HZ.out 4
  have fb5 := heap_frozen HZ.out 5
  have fb6 := heap_frozen HZ.out 6
  have fc0 := heap_frozen HT.out 0
  have fc1 := heap_frozen HT.out 1
  have fc2 := heap_frozen HT.out 2
  have fc3 := heap_frozen HT.out 3
  rw [show keyB 5 = false from rfl] at r6
  have HDO : Hid (doF n k wr0 r st 5 key m text = ((atF n st 5 key.toNat m).1, Tl.no, (atF n st 5 key.toNat m).2)) := Lib.hid (by
    unfold doF
    rw [if_neg (by unfold keyedB; simp), if_neg (by decide), if_neg (by decide), if_neg (by decide), if_neg (by decide)])
  by_cases g1 : m < 0
  · have HF : Hid (doF n k wr0 r st 5 key m text = (st, Tl.no, 1)) := Lib.hid (by rw [HDO.out]; unfold atF; rw [if_pos (.inl g1)])
    have t1 : decide (m < 0) = true := decide_eq_true g1
    clear g1
    obtain ⟨qq1, qq2⟩ := two_heaps (A := w.heap.size + 2) (B := w.heap.size + 3) (by omega) HZ.out HT.out (.int .i64 (n : Int)) (.int .i64 (k : Int)) (.int .i64 (wr0 : Int)) (.int .i64 (r : Int)) (.int .u16 (D : Int)) (.int .i64 (mw : Int)) (.slice ao la ca) (.string ⟨#[]⟩) (.int .i64 0) (.int .i64 0) (.int .i64 0)
    have y0 := heap_cell qq1 0
    have y1 := heap_cell qq1 1
    have y2 := heap_cell qq1 2
    have y3 := heap_cell qq1 3
    have y4 := heap_cell qq1 4
    have y5 := heap_cell qq1 5
    have y6 := heap_cell qq1 6
    have z0 := heap_cell qq2 0
    have z1 := heap_cell qq2 1
    have z2 := heap_cell qq2 2
    have z3 := heap_cell qq2 3
    simp only [List.getElem?_toArray, List.getElem?_cons_zero, List.getElem?_cons_succ] at y0 y1 y2 y3 y4 y5 y6 z0 z1 z2 z3
    clear qq1 qq2
    have HBZ := Lib.hid (below_four (below_seven HB.out (show w.heap.size ≤ w.heap.size + 2 by omega) (.int .i64 (n : Int)) (.int .i64 (k : Int)) (.int .i64 (wr0 : Int)) (.int .i64 (r : Int)) (.int .u16 (D : Int)) (.int .i64 (mw : Int)) (.slice ao la ca)) (show w.heap.size ≤ w.heap.size + 3 by omega) (.string ⟨#[]⟩) (.int .i64 0) (.int .i64 0) (.int .i64 0))
    go_enter Try.func9, Try.ntmps9
    go_wp2_with fail

    refine bodyPost_ret (v := .tuple #[.agg (shC n k wr0 r D mw (.slice ao la ca)), .agg #[.string ⟨#[]⟩, .int .i64 0, .int .i64 0, .int .i64 0], .int .i64 1]) (by simp [results, Try.results9, go_sem, y0, y1, y2, y3, y4, y5, y6, z0, z1, z2, z3]; try rfl) rfl ?_
    rw [HF.out]
    exact ⟨D, All, ao, ca, by rw [HLA.out, HMW.out]; rfl, HSH.out, HR.out.below HBZ.out, HNO.out, .inl rfl, HBZ.out⟩
  have t1 : decide (m < 0) = false := decide_eq_false g1
  by_cases g2 : (n : Int) ≤ m
  · have HF : Hid (doF n k wr0 r st 5 key m text = (st, Tl.no, 1)) := Lib.hid (by rw [HDO.out]; unfold atF; rw [if_pos (.inr g2)])
    have t2 : decide ((n : Int) ≤ m) = true := decide_eq_true g2
    clear g1 g2
    obtain ⟨qq1, qq2⟩ := two_heaps (A := w.heap.size + 2) (B := w.heap.size + 3) (by omega) HZ.out HT.out (.int .i64 (n : Int)) (.int .i64 (k : Int)) (.int .i64 (wr0 : Int)) (.int .i64 (r : Int)) (.int .u16 (D : Int)) (.int .i64 (mw : Int)) (.slice ao la ca) (.string ⟨#[]⟩) (.int .i64 0) (.int .i64 0) (.int .i64 0)
    have y0 := heap_cell qq1 0
    have y1 := heap_cell qq1 1
    have y2 := heap_cell qq1 2
    have y3 := heap_cell qq1 3
    have y4 := heap_cell qq1 4
    have y5 := heap_cell qq1 5
    have y6 := heap_cell qq1 6
    have z0 := heap_cell qq2 0
    have z1 := heap_cell qq2 1
    have z2 := heap_cell qq2 2
    have z3 := heap_cell qq2 3
    simp only [List.getElem?_toArray, List.getElem?_cons_zero, List.getElem?_cons_succ] at y0 y1 y2 y3 y4 y5 y6 z0 z1 z2 z3
    clear qq1 qq2
    have HBZ := Lib.hid (below_four (below_seven HB.out (show w.heap.size ≤ w.heap.size + 2 by omega) (.int .i64 (n : Int)) (.int .i64 (k : Int)) (.int .i64 (wr0 : Int)) (.int .i64 (r : Int)) (.int .u16 (D : Int)) (.int .i64 (mw : Int)) (.slice ao la ca)) (show w.heap.size ≤ w.heap.size + 3 by omega) (.string ⟨#[]⟩) (.int .i64 0) (.int .i64 0) (.int .i64 0))
    go_enter Try.func9, Try.ntmps9
    go_wp2_with fail

    refine bodyPost_ret (v := .tuple #[.agg (shC n k wr0 r D mw (.slice ao la ca)), .agg #[.string ⟨#[]⟩, .int .i64 0, .int .i64 0, .int .i64 0], .int .i64 1]) (by simp [results, Try.results9, go_sem, y0, y1, y2, y3, y4, y5, y6, z0, z1, z2, z3]; try rfl) rfl ?_
    rw [HF.out]
    exact ⟨D, All, ao, ca, by rw [HLA.out, HMW.out]; rfl, HSH.out, HR.out.below HBZ.out, HNO.out, .inl rfl, HBZ.out⟩
  obtain ⟨M, rfl⟩ : ∃ M : Nat, m = M := ⟨m.toNat, by omega⟩
  have hMn : M < n := by omega
  have t2 : decide ((n : Int) ≤ (M : Int)) = false := decide_eq_false g2
  have t2' : decide (n ≤ M) = false := decide_eq_false (by omega)
  have HAT : Hid (atF n st 5 key.toNat (M : Int) = (st.down M false, 0)) := Lib.hid (by
    unfold atF
    rw [if_neg (by omega), if_neg (by decide), if_pos rfl, Int.toNat_natCast])
  clear g1 g2
  have m0 : (0 : Int) ≤ (M : Int) := by omega
  have m1 : (M : Int) ≤ 16 := by omega
  have HF : Hid (doF n k wr0 r st 5 key (M : Int) text = (st.down M false, Tl.no, 0)) := Lib.hid (by rw [HDO.out, HAT.out])
  have HD16 : Hid (D < 65536) := Lib.hid HSH.out.d
  have HSN := Lib.hid (HSH.out.upn (show M < 16 by omega))
  obtain ⟨P, hP⟩ : ∃ P, 2 ^ M = P := ⟨_, rfl⟩
  rw [hP] at HSN
  have hP16 : P < 65536 := by rw [← hP]; exact two_lt (by omega)
  have e0 : ((2 : Int) ^ M) = (P : Int) := by rw [← hP]; push_cast; rfl
  have e1 : IntKind.u16.wrap (P : Int) = (P : Int) := wrap_u16 P hP16
  obtain ⟨N, hN⟩ : ∃ N, D ^^^ (D &&& P) = N := ⟨_, rfl⟩
  have e2 : bits .andNot .u16 (D : Int) (P : Int) = (N : Int) := by rw [← hN]; exact u16_andNot_nat D P HD16.out hP16
  rw [hN] at HSN
  clear hP hN
  have fx4 := heap_frozen HX.out 4
  have HX9 : Hid ((Wm.drew.setCell ⟨w.heap.size, 4, none⟩ (.int .u16 (N : Int))).heap[w.heap.size]? = some (.cells (shC n k wr0 r N mw (.slice ao la ca)) 33 (0, 0))) := Lib.hid (by rw [heap_set _ (heap_drew HX.out)]; rfl)
  have HZ9 : Hid ((Wm.drew.setCell ⟨w.heap.size, 4, none⟩ (.int .u16 (N : Int))).heap[w.heap.size + 2]? = some (.cells #[.int .i64 0, .int .i64 0, .int .i64 0, .int .i64 0, .int .u16 0, .int .i64 0, .slice none 0 0] 33 (0, 0))) := Lib.hid (by rw [heap_set_far _ (by omega)]; exact heap_drew HZ.out)
  have HT9 : Hid ((Wm.drew.setCell ⟨w.heap.size, 4, none⟩ (.int .u16 (N : Int))).heap[w.heap.size + 3]? = some (.cells #[.string ⟨#[]⟩, .int .i64 0, .int .i64 0, .int .i64 0] 40 (0, 0))) := Lib.hid (by rw [heap_set_far _ (by omega)]; exact heap_drew HT.out)
  have HB9 : Hid (Below w.heap.size w (Wm.drew.setCell ⟨w.heap.size, 4, none⟩ (.int .u16 (N : Int)))) := Lib.hid (below_set (below_drew1 HB.out) (Nat.le_refl _) _)
  go_enter Try.func9, Try.ntmps9
  go_wp2_with fail
  go_still_tail 7, (by kernel_rfl)
  change wpList _ _ _ _ _ (World.drew _)
  obtain ⟨W9, hW9⟩ : ∃ W9, Wm.drew.setCell ⟨w.heap.size, 4, none⟩ (.int .u16 (N : Int)) = W9 := ⟨_, rfl⟩
  rw [hW9] at HX9 HZ9 HT9 HB9
  clear bz0 bz1 bz2 bz3 bz4 bz5 bz6 cz0 cz1 cz2 cz3 fb0 fb1 fb2 fb3 fb4 fb5 fb6 fc0 fc1 fc2 fc3
  have xn0 := heap_cell HX9.out 0
  have xn1 := heap_cell HX9.out 1
  have xn2 := heap_cell HX9.out 2
  have xn3 := heap_cell HX9.out 3
  have xn4 := heap_cell HX9.out 4
  have xn5 := heap_cell HX9.out 5
  have xn6 := heap_cell HX9.out 6
  simp only [List.getElem?_toArray, List.getElem?_cons_zero, List.getElem?_cons_succ] at xn0 xn1 xn2 xn3 xn4 xn5 xn6
  have bz0 := heap_cell HZ9.out 0
  have bz1 := heap_cell HZ9.out 1
  have bz2 := heap_cell HZ9.out 2
  have bz3 := heap_cell HZ9.out 3
  have bz4 := heap_cell HZ9.out 4
  have bz5 := heap_cell HZ9.out 5
  have bz6 := heap_cell HZ9.out 6
  have cz0 := heap_cell HT9.out 0
  have cz1 := heap_cell HT9.out 1
  have cz2 := heap_cell HT9.out 2
  have cz3 := heap_cell HT9.out 3
  simp only [List.getElem?_toArray, List.getElem?_cons_zero, List.getElem?_cons_succ] at bz0 bz1 bz2 bz3 bz4 bz5 bz6 cz0 cz1 cz2 cz3
  have fb0 := heap_frozen HZ9.out 0
  have fb1 := heap_frozen HZ9.out 1
  have fb2 := heap_frozen HZ9.out 2
  have fb3 := heap_frozen HZ9.out 3
  have fb4 := heap_frozen HZ9.out 4
  have fb5 := heap_frozen HZ9.out 5
  have fb6 := heap_frozen HZ9.out 6
  have fc0 := heap_frozen HT9.out 0
  have fc1 := heap_frozen HT9.out 1
  have fc2 := heap_frozen HT9.out 2
  have fc3 := heap_frozen HT9.out 3
  obtain ⟨qq1, qq2⟩ := two_heaps (A := w.heap.size + 2) (B := w.heap.size + 3) (by omega) HZ9.out HT9.out (.int .i64 (n : Int)) (.int .i64 (k : Int)) (.int .i64 (wr0 : Int)) (.int .i64 (r : Int)) (.int .u16 (N : Int)) (.int .i64 (mw : Int)) (.slice ao la ca) (.string ⟨#[]⟩) (.int .i64 0) (.int .i64 0) (.int .i64 0)
  have y0 := heap_cell qq1 0
  have y1 := heap_cell qq1 1
  have y2 := heap_cell qq1 2
  have y3 := heap_cell qq1 3
  have y4 := heap_cell qq1 4
  have y5 := heap_cell qq1 5
  have y6 := heap_cell qq1 6
  have z0 := heap_cell qq2 0
  have z1 := heap_cell qq2 1
  have z2 := heap_cell qq2 2
  have z3 := heap_cell qq2 3
  simp only [List.getElem?_toArray, List.getElem?_cons_zero, List.getElem?_cons_succ] at y0 y1 y2 y3 y4 y5 y6 z0 z1 z2 z3
  clear qq1 qq2
  have HBZ := Lib.hid (below_four (below_seven HB9.out (show w.heap.size ≤ w.heap.size + 2 by omega) (.int .i64 (n : Int)) (.int .i64 (k : Int)) (.int .i64 (wr0 : Int)) (.int .i64 (r : Int)) (.int .u16 (N : Int)) (.int .i64 (mw : Int)) (.slice ao la ca)) (show w.heap.size ≤ w.heap.size + 3 by omega) (.string ⟨#[]⟩) (.int .i64 0) (.int .i64 0) (.int .i64 0))
  have HFS0 := Lib.hid (below_four (below_seven (Below.refl 0 W9) (Nat.zero_le (w.heap.size + 2)) (.int .i64 (n : Int)) (.int .i64 (k : Int)) (.int .i64 (wr0 : Int)) (.int .i64 (r : Int)) (.int .u16 (N : Int)) (.int .i64 (mw : Int)) (.slice ao la ca)) (Nat.zero_le (w.heap.size + 3)) (.string ⟨#[]⟩) (.int .i64 0) (.int .i64 0) (.int .i64 0)).size
  go_wp2_with fail
  refine bodyPost_ret (v := .tuple #[.agg (shC n k wr0 r N mw (.slice ao la ca)), .agg #[.string ⟨#[]⟩, .int .i64 0, .int .i64 0, .int .i64 0], .int .i64 0]) (by simp [results, Try.results9, go_sem, y0, y1, y2, y3, y4, y5, y6, z0, z1, z2, z3]; try rfl) rfl ?_
  rw [HF.out]
  exact ⟨N, All, ao, ca, by rw [HLA.out]; show _ = Ending.returned (.tuple #[.agg (shC n k wr0 r N st.wr (.slice ao la ca)), _, _]); rw [HMW.out]; rfl, HSN.out, HR.out.below HBZ.out, HNO.out, .inl rfl, HBZ.out⟩
set_option maxRecDepth 100000 in
set_option maxHeartbeats 8000000 in
theorem ref_Do6 {n D k wr0 r : Nat} {All : List It} {st : St} (key m : Int) (text : ByteArray) (ht : text.size ≤ 9223372036854775807) (hk1 : 1 ≤ k) (hkn : k ≤ n) (hn : n ≤ 10) (h : Shl n D All st) (ao : Option Addr) (ca : Nat) (w : World) (hR : Reads w ao (itCells All)) (hnone : ao = none → All.length = 0 ∧ ca = 0) :
    Calls Try.prog 9 #[.agg (shC n k wr0 r D st.wr (.slice ao All.length ca)), deedV 6 key m text] w (RefPost n k wr0 r ao (doF n k wr0 r st 6 key m text) w) := by
  obtain ⟨la, hla⟩ : ∃ la, All.length = la := ⟨_, rfl⟩
  obtain ⟨mw, hmw⟩ : ∃ mw, st.wr = mw := ⟨_, rfl⟩
  rw [hla, hmw]
  have hl3 : la ≤ 30000000 := by rw [← hla]; exact h.len hn
  obtain ⟨W1, hW1⟩ : ∃ W1, (((w.alloc (.cells (shC n k wr0 r D mw (.slice ao la ca)) 33)).alloc (.cells #[.int .i64 6, .int .i64 key, .int .i64 m, .string text] 36)).alloc (.cells #[.int .i64 0, .int .i64 0, .int .i64 0, .int .i64 0, .int .u16 0, .int .i64 0, .slice none 0 0] 33)).alloc (.cells #[.string ⟨#[]⟩, .int .i64 0, .int .i64 0, .int .i64 0] 40) = W1 := ⟨_, rfl⟩
  have hb0 := below_alloc w (.cells (shC n k wr0 r D mw (.slice ao la ca)) 33)
  have hb1 : Below w.heap.size w W1 := by rw [← hW1]; exact ((hb0.alloc (by simp) _).alloc (by simp; omega) _).alloc (by simp; omega) _
  have hx1 : W1.heap[w.heap.size]? = some (.cells (shC n k wr0 r D mw (.slice ao la ca)) 33 (0, 0)) := by rw [← hW1]; exact heap_alloc_old _ _ (heap_alloc_old _ _ (heap_alloc_old _ _ (heap_alloc_new w _)))
  have hd1 : W1.heap[w.heap.size + 1]? = some (.cells #[.int .i64 6, .int .i64 key, .int .i64 m, .string text] 36 (0, 0)) := by rw [← hW1]; exact heap_alloc_old _ _ (heap_alloc_old _ _ (heap_new' _ _ _ (by simp)))
  have hz1 : W1.heap[w.heap.size + 2]? = some (.cells #[.int .i64 0, .int .i64 0, .int .i64 0, .int .i64 0, .int .u16 0, .int .i64 0, .slice none 0 0] 33 (0, 0)) := by rw [← hW1]; exact heap_alloc_old _ _ (heap_new' _ _ _ (by simp))
  have ht1 : W1.heap[w.heap.size + 3]? = some (.cells #[.string ⟨#[]⟩, .int .i64 0, .int .i64 0, .int .i64 0] 40 (0, 0)) := by rw [← hW1]; exact heap_new' _ _ _ (by simp)
  have hs1 : W1.heap.size = w.heap.size + 4 := by rw [← hW1]; simp
  have HB1 := Lib.hid hb1
  have HX1 := Lib.hid hx1
  have HD1 := Lib.hid hd1
  have HZ1 := Lib.hid hz1
  have HT1 := Lib.hid ht1
  have HS1 := Lib.hid hs1
  have HLA := Lib.hid hla
  have HMW := Lib.hid hmw
  have HR := Lib.hid hR
  have HNO := Lib.hid hnone
  have HSH := Lib.hid h
  clear h hb0 hb1 hx1 hd1 hz1 ht1 hs1 hla hmw hR hnone
  have hmm := @run_makeMap Try.prog
  obtain ⟨v1, v2, v3, v4, Wm, r1, r2, r3, r4, r5, r6, hbm⟩ := keyed_map Try.underlying67 Try.underlying3 Try.zeroValue4 W1 6
  have HBM := Lib.hid hbm
  have HB := Lib.hid (HB1.out.trans (hbm.mono HB1.out.size))
  have HX := Lib.hid ((hbm.block w.heap.size (by have := HS1.out; omega)).trans HX1.out)
  have HDd := Lib.hid ((hbm.block (w.heap.size + 1) (by have := HS1.out; omega)).trans HD1.out)
  have HZ := Lib.hid ((hbm.block (w.heap.size + 2) (by have := HS1.out; omega)).trans HZ1.out)
  have HT := Lib.hid ((hbm.block (w.heap.size + 3) (by have := HS1.out; omega)).trans HT1.out)
  have HSZ : Hid (w.heap.size + 4 ≤ Wm.heap.size) := Lib.hid (by have := hbm.size; have := HS1.out; omega)
  have HRm : Hid (Reads Wm ao (itCells All)) := Lib.hid (HR.out.below HB.out)
  clear hbm
  have x0 := heap_cell HX.out 0
  have x1 := heap_cell HX.out 1
  have x2 := heap_cell HX.out 2
  have x3 := heap_cell HX.out 3
  have x4 := heap_cell HX.out 4
  have x5 := heap_cell HX.out 5
  have x6 := heap_cell HX.out 6
  have d0 := heap_cell HDd.out 0
  have d1 := heap_cell HDd.out 1
  have d2 := heap_cell HDd.out 2
  have d3 := heap_cell HDd.out 3
  have bz0 := heap_cell HZ.out 0
  have bz1 := heap_cell HZ.out 1
  have bz2 := heap_cell HZ.out 2
  have bz3 := heap_cell HZ.out 3
  have bz4 := heap_cell HZ.out 4
  have bz5 := heap_cell HZ.out 5
  have bz6 := heap_cell HZ.out 6
  have cz0 := heap_cell HT.out 0
  have cz1 := heap_cell HT.out 1
  have cz2 := heap_cell HT.out 2
  have cz3 := heap_cell HT.out 3
  simp only [List.getElem?_toArray, List.getElem?_cons_zero, List.getElem?_cons_succ] at x0 x1 x2 x3 x4 x5 x6 d0 d1 d2 d3 bz0 bz1 bz2 bz3 bz4 bz5 bz6 cz0 cz1 cz2 cz3
  have fb0 := heap_frozen HZ.out 0
  have fb1 := heap_frozen HZ.out 1
  have fb2 := heap_frozen HZ.out 2
  have fb3 := heap_frozen HZ.out 3
  have fb4 := heap_frozen HZ.out 4
  have fb5 := heap_frozen HZ.out 5
  have fb6 := heap_frozen HZ.out 6
  have fc0 := heap_frozen HT.out 0
  have fc1 := heap_frozen HT.out 1
  have fc2 := heap_frozen HT.out 2
  have fc3 := heap_frozen HT.out 3
  rw [show keyB 6 = false from rfl] at r6
  have HDO : Hid (doF n k wr0 r st 6 key m text = ((atF n st 6 key.toNat m).1, Tl.no, (atF n st 6 key.toNat m).2)) := Lib.hid (by
    unfold doF
    rw [if_neg (by unfold keyedB; simp), if_neg (by decide), if_neg (by decide), if_neg (by decide), if_neg (by decide)])
  by_cases g1 : m < 0
  · have HF : Hid (doF n k wr0 r st 6 key m text = (st, Tl.no, 1)) := Lib.hid (by rw [HDO.out]; unfold atF; rw [if_pos (.inl g1)])
    have t1 : decide (m < 0) = true := decide_eq_true g1
    clear g1
    obtain ⟨qq1, qq2⟩ := two_heaps (A := w.heap.size + 2) (B := w.heap.size + 3) (by omega) HZ.out HT.out (.int .i64 (n : Int)) (.int .i64 (k : Int)) (.int .i64 (wr0 : Int)) (.int .i64 (r : Int)) (.int .u16 (D : Int)) (.int .i64 (mw : Int)) (.slice ao la ca) (.string ⟨#[]⟩) (.int .i64 0) (.int .i64 0) (.int .i64 0)
    have y0 := heap_cell qq1 0
    have y1 := heap_cell qq1 1
    have y2 := heap_cell qq1 2
    have y3 := heap_cell qq1 3
    have y4 := heap_cell qq1 4
    have y5 := heap_cell qq1 5
    have y6 := heap_cell qq1 6
    have z0 := heap_cell qq2 0
    have z1 := heap_cell qq2 1
    have z2 := heap_cell qq2 2
    have z3 := heap_cell qq2 3
    simp only [List.getElem?_toArray, List.getElem?_cons_zero, List.getElem?_cons_succ] at y0 y1 y2 y3 y4 y5 y6 z0 z1 z2 z3
    clear qq1 qq2
    have HBZ := Lib.hid (below_four (below_seven HB.out (show w.heap.size ≤ w.heap.size + 2 by omega) (.int .i64 (n : Int)) (.int .i64 (k : Int)) (.int .i64 (wr0 : Int)) (.int .i64 (r : Int)) (.int .u16 (D : Int)) (.int .i64 (mw : Int)) (.slice ao la ca)) (show w.heap.size ≤ w.heap.size + 3 by omega) (.string ⟨#[]⟩) (.int .i64 0) (.int .i64 0) (.int .i64 0))
    go_enter Try.func9, Try.ntmps9
    go_wp2_with fail

    refine bodyPost_ret (v := .tuple #[.agg (shC n k wr0 r D mw (.slice ao la ca)), .agg #[.string ⟨#[]⟩, .int .i64 0, .int .i64 0, .int .i64 0], .int .i64 1]) (by simp [results, Try.results9, go_sem, y0, y1, y2, y3, y4, y5, y6, z0, z1, z2, z3]; try rfl) rfl ?_
    rw [HF.out]
    exact ⟨D, All, ao, ca, by rw [HLA.out, HMW.out]; rfl, HSH.out, HR.out.below HBZ.out, HNO.out, .inl rfl, HBZ.out⟩
  have t1 : decide (m < 0) = false := decide_eq_false g1
  by_cases g2 : (n : Int) ≤ m
  · have HF : Hid (doF n k wr0 r st 6 key m text = (st, Tl.no, 1)) := Lib.hid (by rw [HDO.out]; unfold atF; rw [if_pos (.inr g2)])
    have t2 : decide ((n : Int) ≤ m) = true := decide_eq_true g2
    clear g1 g2
    obtain ⟨qq1, qq2⟩ := two_heaps (A := w.heap.size + 2) (B := w.heap.size + 3) (by omega) HZ.out HT.out (.int .i64 (n : Int)) (.int .i64 (k : Int)) (.int .i64 (wr0 : Int)) (.int .i64 (r : Int)) (.int .u16 (D : Int)) (.int .i64 (mw : Int)) (.slice ao la ca) (.string ⟨#[]⟩) (.int .i64 0) (.int .i64 0) (.int .i64 0)
    have y0 := heap_cell qq1 0
    have y1 := heap_cell qq1 1
    have y2 := heap_cell qq1 2
    have y3 := heap_cell qq1 3
    have y4 := heap_cell qq1 4
    have y5 := heap_cell qq1 5
    have y6 := heap_cell qq1 6
    have z0 := heap_cell qq2 0
    have z1 := heap_cell qq2 1
    have z2 := heap_cell qq2 2
    have z3 := heap_cell qq2 3
    simp only [List.getElem?_toArray, List.getElem?_cons_zero, List.getElem?_cons_succ] at y0 y1 y2 y3 y4 y5 y6 z0 z1 z2 z3
    clear qq1 qq2
    have HBZ := Lib.hid (below_four (below_seven HB.out (show w.heap.size ≤ w.heap.size + 2 by omega) (.int .i64 (n : Int)) (.int .i64 (k : Int)) (.int .i64 (wr0 : Int)) (.int .i64 (r : Int)) (.int .u16 (D : Int)) (.int .i64 (mw : Int)) (.slice ao la ca)) (show w.heap.size ≤ w.heap.size + 3 by omega) (.string ⟨#[]⟩) (.int .i64 0) (.int .i64 0) (.int .i64 0))
    go_enter Try.func9, Try.ntmps9
    go_wp2_with fail

    refine bodyPost_ret (v := .tuple #[.agg (shC n k wr0 r D mw (.slice ao la ca)), .agg #[.string ⟨#[]⟩, .int .i64 0, .int .i64 0, .int .i64 0], .int .i64 1]) (by simp [results, Try.results9, go_sem, y0, y1, y2, y3, y4, y5, y6, z0, z1, z2, z3]; try rfl) rfl ?_
    rw [HF.out]
    exact ⟨D, All, ao, ca, by rw [HLA.out, HMW.out]; rfl, HSH.out, HR.out.below HBZ.out, HNO.out, .inl rfl, HBZ.out⟩
  obtain ⟨M, rfl⟩ : ∃ M : Nat, m = M := ⟨m.toNat, by omega⟩
  have hMn : M < n := by omega
  have t2 : decide ((n : Int) ≤ (M : Int)) = false := decide_eq_false g2
  have t2' : decide (n ≤ M) = false := decide_eq_false (by omega)
  have HAT : Hid (atF n st 6 key.toNat (M : Int) = (st.lose M, 0)) := Lib.hid (by
    unfold atF
    rw [if_neg (by omega), if_neg (by decide), if_neg (by decide), if_pos rfl, Int.toNat_natCast])
  clear g1 g2
  have m0 : (0 : Int) ≤ (M : Int) := by omega
  have m1 : (M : Int) ≤ 16 := by omega
  have HF : Hid (doF n k wr0 r st 6 key (M : Int) text = (st.lose M, Tl.no, 0)) := Lib.hid (by rw [HDO.out, HAT.out])
  have HSN := Lib.hid (HSH.out.lose M)
  have CC := Lib.hid (clone_item All la ao ca Wm.heap.size Wm hl3 HLA.out (by have h1 := HNO.out; rw [HLA.out] at h1; exact h1) HRm (Nat.le_refl _))
  unfold RowI at CC
  obtain ⟨ln, hln⟩ : ∃ ln, (leftI (fun x => x.1 == M) All).length = ln := ⟨_, rfl⟩
  have HLN := Lib.hid hln
  clear hln
  go_enter Try.func9, Try.ntmps9
  go_wp2_with fail
  (with_reducible refine CC.out.mono ?_)
  rintro e w6 ⟨a6, c6, rfl, ho6, hb6⟩
  have HB6 := Lib.hid hb6
  have D6 : Hid (w6.cell? ⟨w.heap.size + 1, 2, none⟩ = some (.int .i64 (M : Int))) := Lib.hid ((hb6.cell (p := ⟨w.heap.size + 1, 2, none⟩) (by have := HSZ.out; show w.heap.size + 1 < Wm.heap.size; omega)).trans d2)
  have CD := Lib.hid (delete_dx (.pointer (some ⟨w.heap.size + 1, 0, none⟩)) (fun x => x.1 == M) All la a6 c6 Wm.heap.size w6 HLA.out hl3 ho6 hb6.size (Lib.hid fun x _ W hb => deed_clo x 6 key M (w.heap.size + 1) text W ((hb.cell (p := ⟨w.heap.size + 1, 2, none⟩) (by have := HSZ.out; show w.heap.size + 1 < Wm.heap.size; omega)).trans D6.out)))
  unfold RowI at CD
  rw [HLN.out] at CD
  clear ho6 hb6 CC x0 x1 x2 x3 x4 x5 x6 d0 d1 d2 d3 bz0 bz1 bz2 bz3 bz4 bz5 bz6 cz0 cz1 cz2 cz3 fb0 fb1 fb2 fb3 fb4 fb5 fb6 fc0 fc1 fc2 fc3 r1 r2 r3 r4 r5 r6 hmm
  go_wp2_with fail
  (with_reducible refine CD.out.mono ?_)
  rintro e w7 ⟨a7, c7, rfl, ho7, hb7⟩
  have HB7 : Hid (Below Wm.heap.size Wm w7) := Lib.hid (HB6.out.trans hb7)
  have HX7 := Lib.hid ((HB7.out.block w.heap.size (by have := HSZ.out; omega)).trans HX.out)
  have x6 := heap_cell HX7.out 6
  simp only [List.getElem?_toArray, List.getElem?_cons_zero, List.getElem?_cons_succ] at x6
  have fx6 := heap_frozen HX7.out 6
  have HX9 : Hid ((w7.setCell ⟨w.heap.size, 6, none⟩ (.slice a7 ln c7)).heap[w.heap.size]? = some (.cells (shC n k wr0 r D mw (.slice a7 ln c7)) 33 (0, 0))) := Lib.hid (by rw [heap_set _ HX7.out]; rfl)
  have HZ9 : Hid ((w7.setCell ⟨w.heap.size, 6, none⟩ (.slice a7 ln c7)).heap[w.heap.size + 2]? = some (.cells #[.int .i64 0, .int .i64 0, .int .i64 0, .int .i64 0, .int .u16 0, .int .i64 0, .slice none 0 0] 33 (0, 0))) := Lib.hid (by rw [heap_set_far _ (by omega)]; exact (HB7.out.block (w.heap.size + 2) (by have := HSZ.out; omega)).trans HZ.out)
  have HT9 : Hid ((w7.setCell ⟨w.heap.size, 6, none⟩ (.slice a7 ln c7)).heap[w.heap.size + 3]? = some (.cells #[.string ⟨#[]⟩, .int .i64 0, .int .i64 0, .int .i64 0] 40 (0, 0))) := Lib.hid (by rw [heap_set_far _ (by omega)]; exact (HB7.out.block (w.heap.size + 3) (by have := HSZ.out; omega)).trans HT.out)
  have HB9 : Hid (Below w.heap.size w (w7.setCell ⟨w.heap.size, 6, none⟩ (.slice a7 ln c7))) := Lib.hid (below_set (HB.out.trans (HB7.out.mono HB.out.size)) (Nat.le_refl _) _)
  have HO9 : Hid ((w7.setCell ⟨w.heap.size, 6, none⟩ (.slice a7 ln c7)).ownsRow Wm.heap.size 70 5 (.slice a7 ln c7) ln (itCells (leftI (fun x => x.1 == M) All))) := Lib.hid (ho7.kept (setCell_grown _ _ _ _) (.inr (fun h => by have := (ho7.lt _ h).1; have := HSZ.out; omega)))
  obtain ⟨W9, hW9⟩ : ∃ W9, (w7.setCell ⟨w.heap.size, 6, none⟩ (.slice a7 ln c7)) = W9 := ⟨_, rfl⟩
  rw [hW9] at HX9 HZ9 HT9 HB9 HO9
  have HN9 := Lib.hid (rd_fin HO9.out).2
  have HR9 : Hid (Reads W9 a7 (itCells (leftI (fun x => x.1 == M) All))) := Lib.hid (own_reads' HO9.out)
  clear ho7 hb7 CD
  have xn0 := heap_cell HX9.out 0
  have xn1 := heap_cell HX9.out 1
  have xn2 := heap_cell HX9.out 2
  have xn3 := heap_cell HX9.out 3
  have xn4 := heap_cell HX9.out 4
  have xn5 := heap_cell HX9.out 5
  have xn6 := heap_cell HX9.out 6
  simp only [List.getElem?_toArray, List.getElem?_cons_zero, List.getElem?_cons_succ] at xn0 xn1 xn2 xn3 xn4 xn5 xn6
  have bz0 := heap_cell HZ9.out 0
  have bz1 := heap_cell HZ9.out 1
  have bz2 := heap_cell HZ9.out 2
  have bz3 := heap_cell HZ9.out 3
  have bz4 := heap_cell HZ9.out 4
  have bz5 := heap_cell HZ9.out 5
  have bz6 := heap_cell HZ9.out 6
  have cz0 := heap_cell HT9.out 0
  have cz1 := heap_cell HT9.out 1
  have cz2 := heap_cell HT9.out 2
  have cz3 := heap_cell HT9.out 3
  simp only [List.getElem?_toArray, List.getElem?_cons_zero, List.getElem?_cons_succ] at bz0 bz1 bz2 bz3 bz4 bz5 bz6 cz0 cz1 cz2 cz3
  have fb0 := heap_frozen HZ9.out 0
  have fb1 := heap_frozen HZ9.out 1
  have fb2 := heap_frozen HZ9.out 2
  have fb3 := heap_frozen HZ9.out 3
  have fb4 := heap_frozen HZ9.out 4
  have fb5 := heap_frozen HZ9.out 5
  have fb6 := heap_frozen HZ9.out 6
  have fc0 := heap_frozen HT9.out 0
  have fc1 := heap_frozen HT9.out 1
  have fc2 := heap_frozen HT9.out 2
  have fc3 := heap_frozen HT9.out 3
  obtain ⟨qq1, qq2⟩ := two_heaps (A := w.heap.size + 2) (B := w.heap.size + 3) (by omega) HZ9.out HT9.out (.int .i64 (n : Int)) (.int .i64 (k : Int)) (.int .i64 (wr0 : Int)) (.int .i64 (r : Int)) (.int .u16 (D : Int)) (.int .i64 (mw : Int)) (.slice a7 ln c7) (.string ⟨#[]⟩) (.int .i64 0) (.int .i64 0) (.int .i64 0)
  have y0 := heap_cell qq1 0
  have y1 := heap_cell qq1 1
  have y2 := heap_cell qq1 2
  have y3 := heap_cell qq1 3
  have y4 := heap_cell qq1 4
  have y5 := heap_cell qq1 5
  have y6 := heap_cell qq1 6
  have z0 := heap_cell qq2 0
  have z1 := heap_cell qq2 1
  have z2 := heap_cell qq2 2
  have z3 := heap_cell qq2 3
  simp only [List.getElem?_toArray, List.getElem?_cons_zero, List.getElem?_cons_succ] at y0 y1 y2 y3 y4 y5 y6 z0 z1 z2 z3
  clear qq1 qq2
  have HBZ := Lib.hid (below_four (below_seven HB9.out (show w.heap.size ≤ w.heap.size + 2 by omega) (.int .i64 (n : Int)) (.int .i64 (k : Int)) (.int .i64 (wr0 : Int)) (.int .i64 (r : Int)) (.int .u16 (D : Int)) (.int .i64 (mw : Int)) (.slice a7 ln c7)) (show w.heap.size ≤ w.heap.size + 3 by omega) (.string ⟨#[]⟩) (.int .i64 0) (.int .i64 0) (.int .i64 0))
  have HFS0 := Lib.hid (below_four (below_seven (Below.refl 0 W9) (Nat.zero_le (w.heap.size + 2)) (.int .i64 (n : Int)) (.int .i64 (k : Int)) (.int .i64 (wr0 : Int)) (.int .i64 (r : Int)) (.int .u16 (D : Int)) (.int .i64 (mw : Int)) (.slice a7 ln c7)) (Nat.zero_le (w.heap.size + 3)) (.string ⟨#[]⟩) (.int .i64 0) (.int .i64 0) (.int .i64 0)).size
  go_wp2_with fail
  refine bodyPost_ret (v := .tuple #[.agg (shC n k wr0 r D mw (.slice a7 ln c7)), .agg #[.string ⟨#[]⟩, .int .i64 0, .int .i64 0, .int .i64 0], .int .i64 0]) (by simp [results, Try.results9, go_sem, y0, y1, y2, y3, y4, y5, y6, z0, z1, z2, z3]; try rfl) rfl ?_
  rw [HF.out]
  refine ⟨D, All.filter (fun x => !(x.1 == M)), a7, c7, ?_, HSN.out, fin_far HZ9.out HT9.out HR9.out (fun b o c h1 h2 hc => far4 (a0 := .string ⟨#[]⟩) (a1 := .int .i64 0) (a2 := .int .i64 0) (a3 := .int .i64 0) h2 (far7 (a0 := .int .i64 (n : Int)) (a1 := .int .i64 (k : Int)) (a2 := .int .i64 (wr0 : Int)) (a3 := .int .i64 (r : Int)) (a4 := .int .u16 (D : Int)) (a5 := .int .i64 (mw : Int)) (a6 := .slice a7 ln c7) h1 hc)), fun h0 => ?_, .inr fun a ha => ?_, HBZ.out⟩
  · show _ = Ending.returned (.tuple #[.agg (shC n k wr0 r D st.wr (.slice a7 (leftI (fun x => x.1 == M) All).length c7)), _, _])
    rw [HLN.out, HMW.out]
    rfl
  · have := HN9.out.1 h0
    show (leftI (fun x => x.1 == M) All).length = 0 ∧ _
    rw [HLN.out]
    exact this
  · have h1 := HN9.out.2 a ha
    have h2 := HSZ.out
    exact ⟨by omega, Nat.lt_of_lt_of_le h1.2 HFS0.out⟩
end Go.Proofs.Ytioecklnijhjgaa
