/- The reference's DoOf, where it writes or gets. (Printed by wip/tools/gen_ref6.py.) -/
import Derived.Test.YtioecklnijhjgaaPlM33
import Derived.Test.YtioecklnijhjgaaPlM36
import Derived.Test.YtioecklnijhjgaaRef5
set_option linter.unusedVariables false
set_option linter.unusedSimpArgs false
namespace Go.Proofs.Ytioecklnijhjgaa
open Go.RowKit

theorem doF_put {n k wr r : Nat} {st : St} {key : Nat} {m : Int} {text : ByteArray} (h : key < 3) : doF n k wr r st 1 (key : Int) m text = wrF n k wr st 1 key m text := by
  unfold doF wrF
  rw [if_neg (by omega), if_pos rfl, if_neg (by decide), Int.toNat_natCast]
theorem doF_torn {n k wr r : Nat} {st : St} {key : Nat} {m : Int} {text : ByteArray} (h : key < 3) : doF n k wr r st 2 (key : Int) m text = wrF n k wr st 2 key m text := by
  unfold doF wrF
  rw [if_neg (by omega), if_neg (by decide), if_pos rfl, if_pos rfl, Int.toNat_natCast]
theorem doF_get {n k wr r : Nat} {st : St} {key : Nat} {m : Int} {text : ByteArray} (h : key < 3) : doF n k wr r st 3 (key : Int) m text = gtF n k wr r st 3 key := by
  unfold doF gtF
  rw [if_neg (by omega), if_neg (by decide), if_neg (by decide), if_pos rfl, if_neg (by decide), Int.toNat_natCast]
theorem doF_scrub {n k wr r : Nat} {st : St} {key : Nat} {m : Int} {text : ByteArray} (h : key < 3) : doF n k wr r st 8 (key : Int) m text = gtF n k wr r st 8 key := by
  unfold doF gtF
  rw [if_neg (by omega), if_neg (by decide), if_neg (by decide), if_neg (by decide), if_pos rfl, if_pos rfl, Int.toNat_natCast]
set_option maxRecDepth 100000 in
set_option maxHeartbeats 8000000 in
theorem ref_Do1 {n D k wr0 r : Nat} {All : List It} {st : St} (key : Nat) (hkey : key < 3) (m : Int) (text : ByteArray) (ht : text.size ≤ 9223372036854775807) (hk1 : 1 ≤ k) (hkn : k ≤ n) (hn : n ≤ 10) (h : Shl n D All st) (ao : Option Addr) (ca : Nat) (w : World) (hR : Reads w ao (itCells All)) (hnone : ao = none → All.length = 0 ∧ ca = 0) :
    Calls Try.prog 9 #[.agg (shC n k wr0 r D st.wr (.slice ao All.length ca)), deedV 1 (key : Int) m text] w (RefPost n k wr0 r ao (doF n k wr0 r st 1 (key : Int) m text) w) := by
  obtain ⟨la, hla⟩ : ∃ la, All.length = la := ⟨_, rfl⟩
  obtain ⟨mw, hmw⟩ : ∃ mw, st.wr = mw := ⟨_, rfl⟩
  rw [hla, hmw]
  have hl3 : la ≤ 30000000 := by rw [← hla]; exact h.len hn
  obtain ⟨W1, hW1⟩ : ∃ W1, (((w.alloc (.cells (shC n k wr0 r D mw (.slice ao la ca)) 33)).alloc (.cells #[.int .i64 1, .int .i64 (key : Int), .int .i64 m, .string text] 36)).alloc (.cells #[.int .i64 0, .int .i64 0, .int .i64 0, .int .i64 0, .int .u16 0, .int .i64 0, .slice none 0 0] 33)).alloc (.cells #[.string ⟨#[]⟩, .int .i64 0, .int .i64 0, .int .i64 0] 40) = W1 := ⟨_, rfl⟩
  have hb0 := below_alloc w (.cells (shC n k wr0 r D mw (.slice ao la ca)) 33)
  have hb1 : Below w.heap.size w W1 := by rw [← hW1]; exact ((hb0.alloc (by simp) _).alloc (by simp; omega) _).alloc (by simp; omega) _
  have hx1 : W1.heap[w.heap.size]? = some (.cells (shC n k wr0 r D mw (.slice ao la ca)) 33 (0, 0)) := by rw [← hW1]; exact heap_alloc_old _ _ (heap_alloc_old _ _ (heap_alloc_old _ _ (heap_alloc_new w _)))
  have hd1 : W1.heap[w.heap.size + 1]? = some (.cells #[.int .i64 1, .int .i64 (key : Int), .int .i64 m, .string text] 36 (0, 0)) := by rw [← hW1]; exact heap_alloc_old _ _ (heap_alloc_old _ _ (heap_new' _ _ _ (by simp)))
  have hz1 : W1.heap[w.heap.size + 2]? = some (.cells #[.int .i64 0, .int .i64 0, .int .i64 0, .int .i64 0, .int .u16 0, .int .i64 0, .slice none 0 0] 33 (0, 0)) := by rw [← hW1]; exact heap_alloc_old _ _ (heap_new' _ _ _ (by simp))
  have ht1 : W1.heap[w.heap.size + 3]? = some (.cells #[.string ⟨#[]⟩, .int .i64 0, .int .i64 0, .int .i64 0] 40 (0, 0)) := by rw [← hW1]; exact heap_new' _ _ _ (by simp)
  have hs1 : W1.heap.size = w.heap.size + 4 := by rw [← hW1]; simp
  have HB1 := Lib.hid hb1
  have HX1 := Lib.hid hx1
  have HD1 := Lib.hid hd1
  have HZ1 := Lib.hid hz1
  have HT1 := Lib.hid ht1
  have HS1 := Lib.hid hs1
  have HLA := Lib.hid hla
  have HMW := Lib.hid hmw
  have HR := Lib.hid hR
  have HNO := Lib.hid hnone
  have HSH := Lib.hid h
  clear h hb0 hb1 hx1 hd1 hz1 ht1 hs1 hla hmw hR hnone
  have hmm := @run_makeMap Try.prog
  obtain ⟨v1, v2, v3, v4, Wm, r1, r2, r3, r4, r5, r6, hbm⟩ := keyed_map Try.underlying67 Try.underlying3 Try.zeroValue4 W1 1
  have HBM := Lib.hid hbm
  have HB := Lib.hid (HB1.out.trans (hbm.mono HB1.out.size))
  have HX := Lib.hid ((hbm.block w.heap.size (by have := HS1.out; omega)).trans HX1.out)
  have HDd := Lib.hid ((hbm.block (w.heap.size + 1) (by have := HS1.out; omega)).trans HD1.out)
  have HZ := Lib.hid ((hbm.block (w.heap.size + 2) (by have := HS1.out; omega)).trans HZ1.out)
  have HT := Lib.hid ((hbm.block (w.heap.size + 3) (by have := HS1.out; omega)).trans HT1.out)
  have HSZ : Hid (w.heap.size + 4 ≤ Wm.heap.size) := Lib.hid (by have := hbm.size; have := HS1.out; omega)
  have HRm : Hid (Reads Wm ao (itCells All)) := Lib.hid (HR.out.below HB.out)
  clear hbm
  have x0 := heap_cell HX.out 0
  have x1 := heap_cell HX.out 1
  have x2 := heap_cell HX.out 2
  have x3 := heap_cell HX.out 3
  have x4 := heap_cell HX.out 4
  have x5 := heap_cell HX.out 5
  have x6 := heap_cell HX.out 6
  have d0 := heap_cell HDd.out 0
  have d1 := heap_cell HDd.out 1
  have d2 := heap_cell HDd.out 2
  have d3 := heap_cell HDd.out 3
  have bz0 := heap_cell HZ.out 0
  have bz1 := heap_cell HZ.out 1
  have bz2 := heap_cell HZ.out 2
  have bz3 := heap_cell HZ.out 3
  have bz4 := heap_cell HZ.out 4
  have bz5 := heap_cell HZ.out 5
  have bz6 := heap_cell HZ.out 6
  have cz0 := heap_cell HT.out 0
  have cz1 := heap_cell HT.out 1
  have cz2 := heap_cell HT.out 2
  have cz3 := heap_cell HT.out 3
  simp only [List.getElem?_toArray, List.getElem?_cons_zero, List.getElem?_cons_succ] at x0 x1 x2 x3 x4 x5 x6 d0 d1 d2 d3 bz0 bz1 bz2 bz3 bz4 bz5 bz6 cz0 cz1 cz2 cz3
  have fb0 := heap_frozen HZ.out 0
  have fb1 := heap_frozen HZ.out 1
  have fb2 := heap_frozen HZ.out 2
  have fb3 := heap_frozen HZ.out 3
  have fb4 := heap_frozen HZ.out 4
  have fb5 := heap_frozen HZ.out 5
  have fb6 := heap_frozen HZ.out 6
  have fc0 := heap_frozen HT.out 0
  have fc1 := heap_frozen HT.out 1
  have fc2 := heap_frozen HT.out 2
  have fc3 := heap_frozen HT.out 3
  have HF : Hid (doF n k wr0 r st 1 (key : Int) m text = wrF n k wr0 st 1 key m text) := Lib.hid (doF_put hkey)
  rw [show keyB 1 = true from rfl] at r6
  have t3 : decide ((key : Int) < 0) = false := decide_eq_false (by omega)
  have t4 : decide ((2 : Int) < (key : Int)) = false := decide_eq_false (by omega)
  have t4' : decide (2 < key) = false := decide_eq_false (by omega)
  have CW := Lib.hid (ref_writeOf (wr0 := wr0) (r := r) 1 (.inl rfl) key m text hkey ht hk1 hkn hn HSH.out ao ca Wm HRm.out HNO.out)
  rw [HLA.out, HMW.out] at CW
  unfold RefPost at CW
  obtain ⟨R, hRR⟩ : ∃ R, wrF n k wr0 st 1 key m text = R := ⟨_, rfl⟩
  rw [hRR] at CW HF
  obtain ⟨st', ⟨tx, at', mn⟩, E⟩ := R
  clear hRR
  go_enter Try.func9, Try.ntmps9
  go_wp2_with fail
  (with_reducible refine CW.out.mono ?_)
  rintro e w2 ⟨D', All', ao', cap', rfl, hsh, hrd, hno, hbl, hb2⟩
  have HSH2 := Lib.hid hsh
  have HRD2 := Lib.hid hrd
  have HNO2 := Lib.hid hno
  have HBL2 := Lib.hid hbl
  have HB2 : Hid (Below w.heap.size w w2) := Lib.hid (HB.out.trans (hb2.mono HB.out.size))
  have HZ2 := Lib.hid ((hb2.block (w.heap.size + 2) (by have := HSZ.out; omega)).trans HZ.out)
  have HT2 := Lib.hid ((hb2.block (w.heap.size + 3) (by have := HSZ.out; omega)).trans HT.out)
  obtain ⟨la', hla'⟩ : ∃ la', All'.length = la' := ⟨_, rfl⟩
  obtain ⟨mw', hmw'⟩ : ∃ mw', st'.wr = mw' := ⟨_, rfl⟩
  have HLA2 := Lib.hid hla'
  have HMW2 := Lib.hid hmw'
  clear CW hsh hrd hno hbl hb2 x0 x1 x2 x3 x4 x5 x6 d0 d1 d2 d3 bz0 bz1 bz2 bz3 bz4 bz5 bz6 cz0 cz1 cz2 cz3 fb0 fb1 fb2 fb3 fb4 fb5 fb6 fc0 fc1 fc2 fc3 r1 r2 r3 r4 r5 r6 hmm
  simp only [hla', hmw']
  clear hla' hmw'
  have bz0 := heap_cell HZ2.out 0
  have bz1 := heap_cell HZ2.out 1
  have bz2 := heap_cell HZ2.out 2
  have bz3 := heap_cell HZ2.out 3
  have bz4 := heap_cell HZ2.out 4
  have bz5 := heap_cell HZ2.out 5
  have bz6 := heap_cell HZ2.out 6
  have cz0 := heap_cell HT2.out 0
  have cz1 := heap_cell HT2.out 1
  have cz2 := heap_cell HT2.out 2
  have cz3 := heap_cell HT2.out 3
  simp only [List.getElem?_toArray, List.getElem?_cons_zero, List.getElem?_cons_succ] at bz0 bz1 bz2 bz3 bz4 bz5 bz6 cz0 cz1 cz2 cz3
  have fb0 := heap_frozen HZ2.out 0
  have fb1 := heap_frozen HZ2.out 1
  have fb2 := heap_frozen HZ2.out 2
  have fb3 := heap_frozen HZ2.out 3
  have fb4 := heap_frozen HZ2.out 4
  have fb5 := heap_frozen HZ2.out 5
  have fb6 := heap_frozen HZ2.out 6
  have fc0 := heap_frozen HT2.out 0
  have fc1 := heap_frozen HT2.out 1
  have fc2 := heap_frozen HT2.out 2
  have fc3 := heap_frozen HT2.out 3
  obtain ⟨qq1, qq2⟩ := two_heaps (A := w.heap.size + 2) (B := w.heap.size + 3) (by omega) HZ2.out HT2.out (.int .i64 (n : Int)) (.int .i64 (k : Int)) (.int .i64 (wr0 : Int)) (.int .i64 (r : Int)) (.int .u16 (D' : Int)) (.int .i64 (mw' : Int)) (.slice ao' la' cap') (.string tx) (.int .i64 (at' : Int)) (.int .i64 0) (.int .i64 (mn : Int))
  have y0 := heap_cell qq1 0
  have y1 := heap_cell qq1 1
  have y2 := heap_cell qq1 2
  have y3 := heap_cell qq1 3
  have y4 := heap_cell qq1 4
  have y5 := heap_cell qq1 5
  have y6 := heap_cell qq1 6
  have z0 := heap_cell qq2 0
  have z1 := heap_cell qq2 1
  have z2 := heap_cell qq2 2
  have z3 := heap_cell qq2 3
  simp only [List.getElem?_toArray, List.getElem?_cons_zero, List.getElem?_cons_succ] at y0 y1 y2 y3 y4 y5 y6 z0 z1 z2 z3
  clear qq1 qq2
  have HBZ := Lib.hid (below_four (below_seven HB2.out (show w.heap.size ≤ w.heap.size + 2 by omega) (.int .i64 (n : Int)) (.int .i64 (k : Int)) (.int .i64 (wr0 : Int)) (.int .i64 (r : Int)) (.int .u16 (D' : Int)) (.int .i64 (mw' : Int)) (.slice ao' la' cap')) (show w.heap.size ≤ w.heap.size + 3 by omega) (.string tx) (.int .i64 (at' : Int)) (.int .i64 0) (.int .i64 (mn : Int)))
  have HFS0 := Lib.hid (below_four (below_seven (Below.refl 0 w2) (Nat.zero_le (w.heap.size + 2)) (.int .i64 (n : Int)) (.int .i64 (k : Int)) (.int .i64 (wr0 : Int)) (.int .i64 (r : Int)) (.int .u16 (D' : Int)) (.int .i64 (mw' : Int)) (.slice ao' la' cap')) (Nat.zero_le (w.heap.size + 3)) (.string tx) (.int .i64 (at' : Int)) (.int .i64 0) (.int .i64 (mn : Int))).size
  have HG := Lib.hid (fin_far HZ2.out HT2.out HRD2.out (W := _) (fun b o c h1 h2 hc => far4 (a0 := .string tx) (a1 := .int .i64 (at' : Int)) (a2 := .int .i64 0) (a3 := .int .i64 (mn : Int)) h2 (far7 (a0 := .int .i64 (n : Int)) (a1 := .int .i64 (k : Int)) (a2 := .int .i64 (wr0 : Int)) (a3 := .int .i64 (r : Int)) (a4 := .int .u16 (D' : Int)) (a5 := .int .i64 (mw' : Int)) (a6 := .slice ao' la' cap') h1 hc)))
  go_wp2_with fail
  refine bodyPost_ret (v := .tuple #[.agg (shC n k wr0 r D' mw' (.slice ao' la' cap')), .agg #[.string tx, .int .i64 (at' : Int), .int .i64 0, .int .i64 (mn : Int)], .int .i64 (E : Int)]) (by simp [results, Try.results9, go_sem, y0, y1, y2, y3, y4, y5, y6, z0, z1, z2, z3]; try rfl) rfl ?_
  rw [HF.out]
  refine ⟨D', All', ao', cap', ?_, HSH2.out, HG.out, HNO2.out, ?_, HBZ.out⟩
  · show Ending.returned _ = Ending.returned (.tuple #[.agg (shC n k wr0 r D' st'.wr (.slice ao' All'.length cap')), _, _])
    rw [HLA2.out, HMW2.out]
  · rcases HBL2.out with h | h
    · exact .inl h
    · exact .inr fun a ha => by have h2 := h a ha; have := HSZ.out; exact ⟨by omega, Nat.lt_of_lt_of_le h2.2 HFS0.out⟩
set_option maxRecDepth 100000 in
set_option maxHeartbeats 8000000 in
theorem ref_Do2 {n D k wr0 r : Nat} {All : List It} {st : St} (key : Nat) (hkey : key < 3) (m : Int) (text : ByteArray) (ht : text.size ≤ 9223372036854775807) (hk1 : 1 ≤ k) (hkn : k ≤ n) (hn : n ≤ 10) (h : Shl n D All st) (ao : Option Addr) (ca : Nat) (w : World) (hR : Reads w ao (itCells All)) (hnone : ao = none → All.length = 0 ∧ ca = 0) :
    Calls Try.prog 9 #[.agg (shC n k wr0 r D st.wr (.slice ao All.length ca)), deedV 2 (key : Int) m text] w (RefPost n k wr0 r ao (doF n k wr0 r st 2 (key : Int) m text) w) := by
  obtain ⟨la, hla⟩ : ∃ la, All.length = la := ⟨_, rfl⟩
  obtain ⟨mw, hmw⟩ : ∃ mw, st.wr = mw := ⟨_, rfl⟩
  rw [hla, hmw]
  have hl3 : la ≤ 30000000 := by rw [← hla]; exact h.len hn
  obtain ⟨W1, hW1⟩ : ∃ W1, (((w.alloc (.cells (shC n k wr0 r D mw (.slice ao la ca)) 33)).alloc (.cells #[.int .i64 2, .int .i64 (key : Int), .int .i64 m, .string text] 36)).alloc (.cells #[.int .i64 0, .int .i64 0, .int .i64 0, .int .i64 0, .int .u16 0, .int .i64 0, .slice none 0 0] 33)).alloc (.cells #[.string ⟨#[]⟩, .int .i64 0, .int .i64 0, .int .i64 0] 40) = W1 := ⟨_, rfl⟩
  have hb0 := below_alloc w (.cells (shC n k wr0 r D mw (.slice ao la ca)) 33)
  have hb1 : Below w.heap.size w W1 := by rw [← hW1]; exact ((hb0.alloc (by simp) _).alloc (by simp; omega) _).alloc (by simp; omega) _
  have hx1 : W1.heap[w.heap.size]? = some (.cells (shC n k wr0 r D mw (.slice ao la ca)) 33 (0, 0)) := by rw [← hW1]; exact heap_alloc_old _ _ (heap_alloc_old _ _ (heap_alloc_old _ _ (heap_alloc_new w _)))
  have hd1 : W1.heap[w.heap.size + 1]? = some (.cells #[.int .i64 2, .int .i64 (key : Int), .int .i64 m, .string text] 36 (0, 0)) := by rw [← hW1]; exact heap_alloc_old _ _ (heap_alloc_old _ _ (heap_new' _ _ _ (by simp)))
  have hz1 : W1.heap[w.heap.size + 2]? = some (.cells #[.int .i64 0, .int .i64 0, .int .i64 0, .int .i64 0, .int .u16 0, .int .i64 0, .slice none 0 0] 33 (0, 0)) := by rw [← hW1]; exact heap_alloc_old _ _ (heap_new' _ _ _ (by simp))
  have ht1 : W1.heap[w.heap.size + 3]? = some (.cells #[.string ⟨#[]⟩, .int .i64 0, .int .i64 0, .int .i64 0] 40 (0, 0)) := by rw [← hW1]; exact heap_new' _ _ _ (by simp)
  have hs1 : W1.heap.size = w.heap.size + 4 := by rw [← hW1]; simp
  have HB1 := Lib.hid hb1
  have HX1 := Lib.hid hx1
  have HD1 := Lib.hid hd1
  have HZ1 := Lib.hid hz1
  have HT1 := Lib.hid ht1
  have HS1 := Lib.hid hs1
  have HLA := Lib.hid hla
  have HMW := Lib.hid hmw
  have HR := Lib.hid hR
  have HNO := Lib.hid hnone
  have HSH := Lib.hid h
  clear h hb0 hb1 hx1 hd1 hz1 ht1 hs1 hla hmw hR hnone
  have hmm := @run_makeMap Try.prog
  obtain ⟨v1, v2, v3, v4, Wm, r1, r2, r3, r4, r5, r6, hbm⟩ := keyed_map Try.underlying67 Try.underlying3 Try.zeroValue4 W1 2
  have HBM := Lib.hid hbm
  have HB := Lib.hid (HB1.out.trans (hbm.mono HB1.out.size))
  have HX := Lib.hid ((hbm.block w.heap.size (by have := HS1.out; omega)).trans HX1.out)
  have HDd := Lib.hid ((hbm.block (w.heap.size + 1) (by have := HS1.out; omega)).trans HD1.out)
  have HZ := Lib.hid ((hbm.block (w.heap.size + 2) (by have := HS1.out; omega)).trans HZ1.out)
  have HT := Lib.hid ((hbm.block (w.heap.size + 3) (by have := HS1.out; omega)).trans HT1.out)
  have HSZ : Hid (w.heap.size + 4 ≤ Wm.heap.size) := Lib.hid (by have := hbm.size; have := HS1.out; omega)
  have HRm : Hid (Reads Wm ao (itCells All)) := Lib.hid (HR.out.below HB.out)
  clear hbm
  have x0 := heap_cell HX.out 0
  have x1 := heap_cell HX.out 1
  have x2 := heap_cell HX.out 2
  have x3 := heap_cell HX.out 3
  have x4 := heap_cell HX.out 4
  have x5 := heap_cell HX.out 5
  have x6 := heap_cell HX.out 6
  have d0 := heap_cell HDd.out 0
  have d1 := heap_cell HDd.out 1
  have d2 := heap_cell HDd.out 2
  have d3 := heap_cell HDd.out 3
  have bz0 := heap_cell HZ.out 0
  have bz1 := heap_cell HZ.out 1
  have bz2 := heap_cell HZ.out 2
  have bz3 := heap_cell HZ.out 3
  have bz4 := heap_cell HZ.out 4
  have bz5 := heap_cell HZ.out 5
  have bz6 := heap_cell HZ.out 6
  have cz0 := heap_cell HT.out 0
  have cz1 := heap_cell HT.out 1
  have cz2 := heap_cell HT.out 2
  have cz3 := heap_cell HT.out 3
  simp only [List.getElem?_toArray, List.getElem?_cons_zero, List.getElem?_cons_succ] at x0 x1 x2 x3 x4 x5 x6 d0 d1 d2 d3 bz0 bz1 bz2 bz3 bz4 bz5 bz6 cz0 cz1 cz2 cz3
  have fb0 := heap_frozen HZ.out 0
  have fb1 := heap_frozen HZ.out 1
  have fb2 := heap_frozen HZ.out 2
  have fb3 := heap_frozen HZ.out 3
  have fb4 := heap_frozen HZ.out 4
  have fb5 := heap_frozen HZ.out 5
  have fb6 := heap_frozen HZ.out 6
  have fc0 := heap_frozen HT.out 0
  have fc1 := heap_frozen HT.out 1
  have fc2 := heap_frozen HT.out 2
  have fc3 := heap_frozen HT.out 3
  have HF : Hid (doF n k wr0 r st 2 (key : Int) m text = wrF n k wr0 st 2 key m text) := Lib.hid (doF_torn hkey)
  rw [show keyB 2 = true from rfl] at r6
  have t3 : decide ((key : Int) < 0) = false := decide_eq_false (by omega)
  have t4 : decide ((2 : Int) < (key : Int)) = false := decide_eq_false (by omega)
  have t4' : decide (2 < key) = false := decide_eq_false (by omega)
  have CW := Lib.hid (ref_writeOf (wr0 := wr0) (r := r) 2 (.inr rfl) key m text hkey ht hk1 hkn hn HSH.out ao ca Wm HRm.out HNO.out)
  rw [HLA.out, HMW.out] at CW
  unfold RefPost at CW
  obtain ⟨R, hRR⟩ : ∃ R, wrF n k wr0 st 2 key m text = R := ⟨_, rfl⟩
  rw [hRR] at CW HF
  obtain ⟨st', ⟨tx, at', mn⟩, E⟩ := R
  clear hRR
  go_enter Try.func9, Try.ntmps9
  go_wp2_with fail
  (with_reducible refine CW.out.mono ?_)
  rintro e w2 ⟨D', All', ao', cap', rfl, hsh, hrd, hno, hbl, hb2⟩
  have HSH2 := Lib.hid hsh
  have HRD2 := Lib.hid hrd
  have HNO2 := Lib.hid hno
  have HBL2 := Lib.hid hbl
  have HB2 : Hid (Below w.heap.size w w2) := Lib.hid (HB.out.trans (hb2.mono HB.out.size))
  have HZ2 := Lib.hid ((hb2.block (w.heap.size + 2) (by have := HSZ.out; omega)).trans HZ.out)
  have HT2 := Lib.hid ((hb2.block (w.heap.size + 3) (by have := HSZ.out; omega)).trans HT.out)
  obtain ⟨la', hla'⟩ : ∃ la', All'.length = la' := ⟨_, rfl⟩
  obtain ⟨mw', hmw'⟩ : ∃ mw', st'.wr = mw' := ⟨_, rfl⟩
  have HLA2 := Lib.hid hla'
  have HMW2 := Lib.hid hmw'
  clear CW hsh hrd hno hbl hb2 x0 x1 x2 x3 x4 x5 x6 d0 d1 d2 d3 bz0 bz1 bz2 bz3 bz4 bz5 bz6 cz0 cz1 cz2 cz3 fb0 fb1 fb2 fb3 fb4 fb5 fb6 fc0 fc1 fc2 fc3 r1 r2 r3 r4 r5 r6 hmm
  simp only [hla', hmw']
  clear hla' hmw'
  have bz0 := heap_cell HZ2.out 0
  have bz1 := heap_cell HZ2.out 1
  have bz2 := heap_cell HZ2.out 2
  have bz3 := heap_cell HZ2.out 3
  have bz4 := heap_cell HZ2.out 4
  have bz5 := heap_cell HZ2.out 5
  have bz6 := heap_cell HZ2.out 6
  have cz0 := heap_cell HT2.out 0
  have cz1 := heap_cell HT2.out 1
  have cz2 := heap_cell HT2.out 2
  have cz3 := heap_cell HT2.out 3
  simp only [List.getElem?_toArray, List.getElem?_cons_zero, List.getElem?_cons_succ] at bz0 bz1 bz2 bz3 bz4 bz5 bz6 cz0 cz1 cz2 cz3
  have fb0 := heap_frozen HZ2.out 0
  have fb1 := heap_frozen HZ2.out 1
  have fb2 := heap_frozen HZ2.out 2
  have fb3 := heap_frozen HZ2.out 3
  have fb4 := heap_frozen HZ2.out 4
  have fb5 := heap_frozen HZ2.out 5
  have fb6 := heap_frozen HZ2.out 6
  have fc0 := heap_frozen HT2.out 0
  have fc1 := heap_frozen HT2.out 1
  have fc2 := heap_frozen HT2.out 2
  have fc3 := heap_frozen HT2.out 3
  obtain ⟨qq1, qq2⟩ := two_heaps (A := w.heap.size + 2) (B := w.heap.size + 3) (by omega) HZ2.out HT2.out (.int .i64 (n : Int)) (.int .i64 (k : Int)) (.int .i64 (wr0 : Int)) (.int .i64 (r : Int)) (.int .u16 (D' : Int)) (.int .i64 (mw' : Int)) (.slice ao' la' cap') (.string tx) (.int .i64 (at' : Int)) (.int .i64 0) (.int .i64 (mn : Int))
  have y0 := heap_cell qq1 0
  have y1 := heap_cell qq1 1
  have y2 := heap_cell qq1 2
  have y3 := heap_cell qq1 3
  have y4 := heap_cell qq1 4
  have y5 := heap_cell qq1 5
  have y6 := heap_cell qq1 6
  have z0 := heap_cell qq2 0
  have z1 := heap_cell qq2 1
  have z2 := heap_cell qq2 2
  have z3 := heap_cell qq2 3
  simp only [List.getElem?_toArray, List.getElem?_cons_zero, List.getElem?_cons_succ] at y0 y1 y2 y3 y4 y5 y6 z0 z1 z2 z3
  clear qq1 qq2
  have HBZ := Lib.hid (below_four (below_seven HB2.out (show w.heap.size ≤ w.heap.size + 2 by omega) (.int .i64 (n : Int)) (.int .i64 (k : Int)) (.int .i64 (wr0 : Int)) (.int .i64 (r : Int)) (.int .u16 (D' : Int)) (.int .i64 (mw' : Int)) (.slice ao' la' cap')) (show w.heap.size ≤ w.heap.size + 3 by omega) (.string tx) (.int .i64 (at' : Int)) (.int .i64 0) (.int .i64 (mn : Int)))
  have HFS0 := Lib.hid (below_four (below_seven (Below.refl 0 w2) (Nat.zero_le (w.heap.size + 2)) (.int .i64 (n : Int)) (.int .i64 (k : Int)) (.int .i64 (wr0 : Int)) (.int .i64 (r : Int)) (.int .u16 (D' : Int)) (.int .i64 (mw' : Int)) (.slice ao' la' cap')) (Nat.zero_le (w.heap.size + 3)) (.string tx) (.int .i64 (at' : Int)) (.int .i64 0) (.int .i64 (mn : Int))).size
  have HG := Lib.hid (fin_far HZ2.out HT2.out HRD2.out (W := _) (fun b o c h1 h2 hc => far4 (a0 := .string tx) (a1 := .int .i64 (at' : Int)) (a2 := .int .i64 0) (a3 := .int .i64 (mn : Int)) h2 (far7 (a0 := .int .i64 (n : Int)) (a1 := .int .i64 (k : Int)) (a2 := .int .i64 (wr0 : Int)) (a3 := .int .i64 (r : Int)) (a4 := .int .u16 (D' : Int)) (a5 := .int .i64 (mw' : Int)) (a6 := .slice ao' la' cap') h1 hc)))
  go_wp2_with fail
  refine bodyPost_ret (v := .tuple #[.agg (shC n k wr0 r D' mw' (.slice ao' la' cap')), .agg #[.string tx, .int .i64 (at' : Int), .int .i64 0, .int .i64 (mn : Int)], .int .i64 (E : Int)]) (by simp [results, Try.results9, go_sem, y0, y1, y2, y3, y4, y5, y6, z0, z1, z2, z3]; try rfl) rfl ?_
  rw [HF.out]
  refine ⟨D', All', ao', cap', ?_, HSH2.out, HG.out, HNO2.out, ?_, HBZ.out⟩
  · show Ending.returned _ = Ending.returned (.tuple #[.agg (shC n k wr0 r D' st'.wr (.slice ao' All'.length cap')), _, _])
    rw [HLA2.out, HMW2.out]
  · rcases HBL2.out with h | h
    · exact .inl h
    · exact .inr fun a ha => by have h2 := h a ha; have := HSZ.out; exact ⟨by omega, Nat.lt_of_lt_of_le h2.2 HFS0.out⟩
set_option maxRecDepth 100000 in
set_option maxHeartbeats 8000000 in
theorem ref_Do3 {n D k wr0 r : Nat} {All : List It} {st : St} (key : Nat) (hkey : key < 3) (m : Int) (text : ByteArray) (ht : text.size ≤ 9223372036854775807) (hk1 : 1 ≤ k) (hkn : k ≤ n) (hn : n ≤ 10) (h : Shl n D All st) (ao : Option Addr) (ca : Nat) (w : World) (hR : Reads w ao (itCells All)) (hnone : ao = none → All.length = 0 ∧ ca = 0) :
    Calls Try.prog 9 #[.agg (shC n k wr0 r D st.wr (.slice ao All.length ca)), deedV 3 (key : Int) m text] w (RefPost n k wr0 r ao (doF n k wr0 r st 3 (key : Int) m text) w) := by
  obtain ⟨la, hla⟩ : ∃ la, All.length = la := ⟨_, rfl⟩
  obtain ⟨mw, hmw⟩ : ∃ mw, st.wr = mw := ⟨_, rfl⟩
  rw [hla, hmw]
  have hl3 : la ≤ 30000000 := by rw [← hla]; exact h.len hn
  obtain ⟨W1, hW1⟩ : ∃ W1, (((w.alloc (.cells (shC n k wr0 r D mw (.slice ao la ca)) 33)).alloc (.cells #[.int .i64 3, .int .i64 (key : Int), .int .i64 m, .string text] 36)).alloc (.cells #[.int .i64 0, .int .i64 0, .int .i64 0, .int .i64 0, .int .u16 0, .int .i64 0, .slice none 0 0] 33)).alloc (.cells #[.string ⟨#[]⟩, .int .i64 0, .int .i64 0, .int .i64 0] 40) = W1 := ⟨_, rfl⟩
  have hb0 := below_alloc w (.cells (shC n k wr0 r D mw (.slice ao la ca)) 33)
  have hb1 : Below w.heap.size w W1 := by rw [← hW1]; exact ((hb0.alloc (by simp) _).alloc (by simp; omega) _).alloc (by simp; omega) _
  have hx1 : W1.heap[w.heap.size]? = some (.cells (shC n k wr0 r D mw (.slice ao la ca)) 33 (0, 0)) := by rw [← hW1]; exact heap_alloc_old _ _ (heap_alloc_old _ _ (heap_alloc_old _ _ (heap_alloc_new w _)))
  have hd1 : W1.heap[w.heap.size + 1]? = some (.cells #[.int .i64 3, .int .i64 (key : Int), .int .i64 m, .string text] 36 (0, 0)) := by rw [← hW1]; exact heap_alloc_old _ _ (heap_alloc_old _ _ (heap_new' _ _ _ (by simp)))
  have hz1 : W1.heap[w.heap.size + 2]? = some (.cells #[.int .i64 0, .int .i64 0, .int .i64 0, .int .i64 0, .int .u16 0, .int .i64 0, .slice none 0 0] 33 (0, 0)) := by rw [← hW1]; exact heap_alloc_old _ _ (heap_new' _ _ _ (by simp))
  have ht1 : W1.heap[w.heap.size + 3]? = some (.cells #[.string ⟨#[]⟩, .int .i64 0, .int .i64 0, .int .i64 0] 40 (0, 0)) := by rw [← hW1]; exact heap_new' _ _ _ (by simp)
  have hs1 : W1.heap.size = w.heap.size + 4 := by rw [← hW1]; simp
  have HB1 := Lib.hid hb1
  have HX1 := Lib.hid hx1
  have HD1 := Lib.hid hd1
  have HZ1 := Lib.hid hz1
  have HT1 := Lib.hid ht1
  have HS1 := Lib.hid hs1
  have HLA := Lib.hid hla
  have HMW := Lib.hid hmw
  have HR := Lib.hid hR
  have HNO := Lib.hid hnone
  have HSH := Lib.hid h
  clear h hb0 hb1 hx1 hd1 hz1 ht1 hs1 hla hmw hR hnone
  have hmm := @run_makeMap Try.prog
  obtain ⟨v1, v2, v3, v4, Wm, r1, r2, r3, r4, r5, r6, hbm⟩ := keyed_map Try.underlying67 Try.underlying3 Try.zeroValue4 W1 3
  have HBM := Lib.hid hbm
  have HB := Lib.hid (HB1.out.trans (hbm.mono HB1.out.size))
  have HX := Lib.hid ((hbm.block w.heap.size (by have := HS1.out; omega)).trans HX1.out)
  have HDd := Lib.hid ((hbm.block (w.heap.size + 1) (by have := HS1.out; omega)).trans HD1.out)
  have HZ := Lib.hid ((hbm.block (w.heap.size + 2) (by have := HS1.out; omega)).trans HZ1.out)
  have HT := Lib.hid ((hbm.block (w.heap.size + 3) (by have := HS1.out; omega)).trans HT1.out)
  have HSZ : Hid (w.heap.size + 4 ≤ Wm.heap.size) := Lib.hid (by have := hbm.size; have := HS1.out; omega)
  have HRm : Hid (Reads Wm ao (itCells All)) := Lib.hid (HR.out.below HB.out)
  clear hbm
  have x0 := heap_cell HX.out 0
  have x1 := heap_cell HX.out 1
  have x2 := heap_cell HX.out 2
  have x3 := heap_cell HX.out 3
  have x4 := heap_cell HX.out 4
  have x5 := heap_cell HX.out 5
  have x6 := heap_cell HX.out 6
  have d0 := heap_cell HDd.out 0
  have d1 := heap_cell HDd.out 1
  have d2 := heap_cell HDd.out 2
  have d3 := heap_cell HDd.out 3
  have bz0 := heap_cell HZ.out 0
  have bz1 := heap_cell HZ.out 1
  have bz2 := heap_cell HZ.out 2
  have bz3 := heap_cell HZ.out 3
  have bz4 := heap_cell HZ.out 4
  have bz5 := heap_cell HZ.out 5
  have bz6 := heap_cell HZ.out 6
  have cz0 := heap_cell HT.out 0
  have cz1 := heap_cell HT.out 1
  have cz2 := heap_cell HT.out 2
  have cz3 := heap_cell HT.out 3
  simp only [List.getElem?_toArray, List.getElem?_cons_zero, List.getElem?_cons_succ] at x0 x1 x2 x3 x4 x5 x6 d0 d1 d2 d3 bz0 bz1 bz2 bz3 bz4 bz5 bz6 cz0 cz1 cz2 cz3
  have fb0 := heap_frozen HZ.out 0
  have fb1 := heap_frozen HZ.out 1
  have fb2 := heap_frozen HZ.out 2
  have fb3 := heap_frozen HZ.out 3
  have fb4 := heap_frozen HZ.out 4
  have fb5 := heap_frozen HZ.out 5
  have fb6 := heap_frozen HZ.out 6
  have fc0 := heap_frozen HT.out 0
  have fc1 := heap_frozen HT.out 1
  have fc2 := heap_frozen HT.out 2
  have fc3 := heap_frozen HT.out 3
  have HF : Hid (doF n k wr0 r st 3 (key : Int) m text = gtF n k wr0 r st 3 key) := Lib.hid (doF_get hkey)
  rw [show keyB 3 = true from rfl] at r6
  have t3 : decide ((key : Int) < 0) = false := decide_eq_false (by omega)
  have t4 : decide ((2 : Int) < (key : Int)) = false := decide_eq_false (by omega)
  have t4' : decide (2 < key) = false := decide_eq_false (by omega)
  have CW := Lib.hid (ref_getOf (wr0 := wr0) (r := r) 3 (.inl rfl) key m text hkey hk1 hkn hn HSH.out ao ca Wm HRm.out HNO.out)
  rw [HLA.out, HMW.out] at CW
  unfold RefPost at CW
  obtain ⟨R, hRR⟩ : ∃ R, gtF n k wr0 r st 3 key = R := ⟨_, rfl⟩
  rw [hRR] at CW HF
  obtain ⟨st', ⟨tx, at', mn⟩, E⟩ := R
  clear hRR
  go_enter Try.func9, Try.ntmps9
  go_wp2_with fail
  (with_reducible refine CW.out.mono ?_)
  rintro e w2 ⟨D', All', ao', cap', rfl, hsh, hrd, hno, hbl, hb2⟩
  have HSH2 := Lib.hid hsh
  have HRD2 := Lib.hid hrd
  have HNO2 := Lib.hid hno
  have HBL2 := Lib.hid hbl
  have HB2 : Hid (Below w.heap.size w w2) := Lib.hid (HB.out.trans (hb2.mono HB.out.size))
  have HZ2 := Lib.hid ((hb2.block (w.heap.size + 2) (by have := HSZ.out; omega)).trans HZ.out)
  have HT2 := Lib.hid ((hb2.block (w.heap.size + 3) (by have := HSZ.out; omega)).trans HT.out)
  obtain ⟨la', hla'⟩ : ∃ la', All'.length = la' := ⟨_, rfl⟩
  obtain ⟨mw', hmw'⟩ : ∃ mw', st'.wr = mw' := ⟨_, rfl⟩
  have HLA2 := Lib.hid hla'
  have HMW2 := Lib.hid hmw'
  clear CW hsh hrd hno hbl hb2 x0 x1 x2 x3 x4 x5 x6 d0 d1 d2 d3 bz0 bz1 bz2 bz3 bz4 bz5 bz6 cz0 cz1 cz2 cz3 fb0 fb1 fb2 fb3 fb4 fb5 fb6 fc0 fc1 fc2 fc3 r1 r2 r3 r4 r5 r6 hmm
  simp only [hla', hmw']
  clear hla' hmw'
  have bz0 := heap_cell HZ2.out 0
  have bz1 := heap_cell HZ2.out 1
  have bz2 := heap_cell HZ2.out 2
  have bz3 := heap_cell HZ2.out 3
  have bz4 := heap_cell HZ2.out 4
  have bz5 := heap_cell HZ2.out 5
  have bz6 := heap_cell HZ2.out 6
  have cz0 := heap_cell HT2.out 0
  have cz1 := heap_cell HT2.out 1
  have cz2 := heap_cell HT2.out 2
  have cz3 := heap_cell HT2.out 3
  simp only [List.getElem?_toArray, List.getElem?_cons_zero, List.getElem?_cons_succ] at bz0 bz1 bz2 bz3 bz4 bz5 bz6 cz0 cz1 cz2 cz3
  have fb0 := heap_frozen HZ2.out 0
  have fb1 := heap_frozen HZ2.out 1
  have fb2 := heap_frozen HZ2.out 2
  have fb3 := heap_frozen HZ2.out 3
  have fb4 := heap_frozen HZ2.out 4
  have fb5 := heap_frozen HZ2.out 5
  have fb6 := heap_frozen HZ2.out 6
  have fc0 := heap_frozen HT2.out 0
  have fc1 := heap_frozen HT2.out 1
  have fc2 := heap_frozen HT2.out 2
  have fc3 := heap_frozen HT2.out 3
  obtain ⟨qq1, qq2⟩ := two_heaps (A := w.heap.size + 2) (B := w.heap.size + 3) (by omega) HZ2.out HT2.out (.int .i64 (n : Int)) (.int .i64 (k : Int)) (.int .i64 (wr0 : Int)) (.int .i64 (r : Int)) (.int .u16 (D' : Int)) (.int .i64 (mw' : Int)) (.slice ao' la' cap') (.string tx) (.int .i64 (at' : Int)) (.int .i64 0) (.int .i64 (mn : Int))
  have y0 := heap_cell qq1 0
  have y1 := heap_cell qq1 1
  have y2 := heap_cell qq1 2
  have y3 := heap_cell qq1 3
  have y4 := heap_cell qq1 4
  have y5 := heap_cell qq1 5
  have y6 := heap_cell qq1 6
  have z0 := heap_cell qq2 0
  have z1 := heap_cell qq2 1
  have z2 := heap_cell qq2 2
  have z3 := heap_cell qq2 3
  simp only [List.getElem?_toArray, List.getElem?_cons_zero, List.getElem?_cons_succ] at y0 y1 y2 y3 y4 y5 y6 z0 z1 z2 z3
  clear qq1 qq2
  have HBZ := Lib.hid (below_four (below_seven HB2.out (show w.heap.size ≤ w.heap.size + 2 by omega) (.int .i64 (n : Int)) (.int .i64 (k : Int)) (.int .i64 (wr0 : Int)) (.int .i64 (r : Int)) (.int .u16 (D' : Int)) (.int .i64 (mw' : Int)) (.slice ao' la' cap')) (show w.heap.size ≤ w.heap.size + 3 by omega) (.string tx) (.int .i64 (at' : Int)) (.int .i64 0) (.int .i64 (mn : Int)))
  have HFS0 := Lib.hid (below_four (below_seven (Below.refl 0 w2) (Nat.zero_le (w.heap.size + 2)) (.int .i64 (n : Int)) (.int .i64 (k : Int)) (.int .i64 (wr0 : Int)) (.int .i64 (r : Int)) (.int .u16 (D' : Int)) (.int .i64 (mw' : Int)) (.slice ao' la' cap')) (Nat.zero_le (w.heap.size + 3)) (.string tx) (.int .i64 (at' : Int)) (.int .i64 0) (.int .i64 (mn : Int))).size
  have HG := Lib.hid (fin_far HZ2.out HT2.out HRD2.out (W := _) (fun b o c h1 h2 hc => far4 (a0 := .string tx) (a1 := .int .i64 (at' : Int)) (a2 := .int .i64 0) (a3 := .int .i64 (mn : Int)) h2 (far7 (a0 := .int .i64 (n : Int)) (a1 := .int .i64 (k : Int)) (a2 := .int .i64 (wr0 : Int)) (a3 := .int .i64 (r : Int)) (a4 := .int .u16 (D' : Int)) (a5 := .int .i64 (mw' : Int)) (a6 := .slice ao' la' cap') h1 hc)))
  go_wp2_with fail
  refine bodyPost_ret (v := .tuple #[.agg (shC n k wr0 r D' mw' (.slice ao' la' cap')), .agg #[.string tx, .int .i64 (at' : Int), .int .i64 0, .int .i64 (mn : Int)], .int .i64 (E : Int)]) (by simp [results, Try.results9, go_sem, y0, y1, y2, y3, y4, y5, y6, z0, z1, z2, z3]; try rfl) rfl ?_
  rw [HF.out]
  refine ⟨D', All', ao', cap', ?_, HSH2.out, HG.out, HNO2.out, ?_, HBZ.out⟩
  · show Ending.returned _ = Ending.returned (.tuple #[.agg (shC n k wr0 r D' st'.wr (.slice ao' All'.length cap')), _, _])
    rw [HLA2.out, HMW2.out]
  · rcases HBL2.out with h | h
    · exact .inl h
    · exact .inr fun a ha => by have h2 := h a ha; have := HSZ.out; exact ⟨by omega, Nat.lt_of_lt_of_le h2.2 HFS0.out⟩
set_option maxRecDepth 100000 in
set_option maxHeartbeats 8000000 in
theorem ref_Do8 {n D k wr0 r : Nat} {All : List It} {st : St} (key : Nat) (hkey : key < 3) (m : Int) (text : ByteArray) (ht : text.size ≤ 9223372036854775807) (hk1 : 1 ≤ k) (hkn : k ≤ n) (hn : n ≤ 10) (h : Shl n D All st) (ao : Option Addr) (ca : Nat) (w : World) (hR : Reads w ao (itCells All)) (hnone : ao = none → All.length = 0 ∧ ca = 0) :
    Calls Try.prog 9 #[.agg (shC n k wr0 r D st.wr (.slice ao All.length ca)), deedV 8 (key : Int) m text] w (RefPost n k wr0 r ao (doF n k wr0 r st 8 (key : Int) m text) w) := by
  obtain ⟨la, hla⟩ : ∃ la, All.length = la := ⟨_, rfl⟩
  obtain ⟨mw, hmw⟩ : ∃ mw, st.wr = mw := ⟨_, rfl⟩
  rw [hla, hmw]
  have hl3 : la ≤ 30000000 := by rw [← hla]; exact h.len hn
  obtain ⟨W1, hW1⟩ : ∃ W1, (((w.alloc (.cells (shC n k wr0 r D mw (.slice ao la ca)) 33)).alloc (.cells #[.int .i64 8, .int .i64 (key : Int), .int .i64 m, .string text] 36)).alloc (.cells #[.int .i64 0, .int .i64 0, .int .i64 0, .int .i64 0, .int .u16 0, .int .i64 0, .slice none 0 0] 33)).alloc (.cells #[.string ⟨#[]⟩, .int .i64 0, .int .i64 0, .int .i64 0] 40) = W1 := ⟨_, rfl⟩
  have hb0 := below_alloc w (.cells (shC n k wr0 r D mw (.slice ao la ca)) 33)
  have hb1 : Below w.heap.size w W1 := by rw [← hW1]; exact ((hb0.alloc (by simp) _).alloc (by simp; omega) _).alloc (by simp; omega) _
  have hx1 : W1.heap[w.heap.size]? = some (.cells (shC n k wr0 r D mw (.slice ao la ca)) 33 (0, 0)) := by rw [← hW1]; exact heap_alloc_old _ _ (heap_alloc_old _ _ (heap_alloc_old _ _ (heap_alloc_new w _)))
  have hd1 : W1.heap[w.heap.size + 1]? = some (.cells #[.int .i64 8, .int .i64 (key : Int), .int .i64 m, .string text] 36 (0, 0)) := by rw [← hW1]; exact heap_alloc_old _ _ (heap_alloc_old _ _ (heap_new' _ _ _ (by simp)))
  have hz1 : W1.heap[w.heap.size + 2]? = some (.cells #[.int .i64 0, .int .i64 0, .int .i64 0, .int .i64 0, .int .u16 0, .int .i64 0, .slice none 0 0] 33 (0, 0)) := by rw [← hW1]; exact heap_alloc_old _ _ (heap_new' _ _ _ (by simp))
  have ht1 : W1.heap[w.heap.size + 3]? = some (.cells #[.string ⟨#[]⟩, .int .i64 0, .int .i64 0, .int .i64 0] 40 (0, 0)) := by rw [← hW1]; exact heap_new' _ _ _ (by simp)
  have hs1 : W1.heap.size = w.heap.size + 4 := by rw [← hW1]; simp
  have HB1 := Lib.hid hb1
  have HX1 := Lib.hid hx1
  have HD1 := Lib.hid hd1
  have HZ1 := Lib.hid hz1
  have HT1 := Lib.hid ht1
  have HS1 := Lib.hid hs1
  have HLA := Lib.hid hla
  have HMW := Lib.hid hmw
  have HR := Lib.hid hR
  have HNO := Lib.hid hnone
  have HSH := Lib.hid h
  clear h hb0 hb1 hx1 hd1 hz1 ht1 hs1 hla hmw hR hnone
  have hmm := @run_makeMap Try.prog
  obtain ⟨v1, v2, v3, v4, Wm, r1, r2, r3, r4, r5, r6, hbm⟩ := keyed_map Try.underlying67 Try.underlying3 Try.zeroValue4 W1 8
  have HBM := Lib.hid hbm
  have HB := Lib.hid (HB1.out.trans (hbm.mono HB1.out.size))
  have HX := Lib.hid ((hbm.block w.heap.size (by have := HS1.out; omega)).trans HX1.out)
  have HDd := Lib.hid ((hbm.block (w.heap.size + 1) (by have := HS1.out; omega)).trans HD1.out)
  have HZ := Lib.hid ((hbm.block (w.heap.size + 2) (by have := HS1.out; omega)).trans HZ1.out)
  have HT := Lib.hid ((hbm.block (w.heap.size + 3) (by have := HS1.out; omega)).trans HT1.out)
  have HSZ : Hid (w.heap.size + 4 ≤ Wm.heap.size) := Lib.hid (by have := hbm.size; have := HS1.out; omega)
  have HRm : Hid (Reads Wm ao (itCells All)) := Lib.hid (HR.out.below HB.out)
  clear hbm
  have x0 := heap_cell HX.out 0
  have x1 := heap_cell HX.out 1
  have x2 := heap_cell HX.out 2
  have x3 := heap_cell HX.out 3
  have x4 := heap_cell HX.out 4
  have x5 := heap_cell HX.out 5
  have x6 := heap_cell HX.out 6
  have d0 := heap_cell HDd.out 0
  have d1 := heap_cell HDd.out 1
  have d2 := heap_cell HDd.out 2
  have d3 := heap_cell HDd.out 3
  have bz0 := heap_cell HZ.out 0
  have bz1 := heap_cell HZ.out 1
  have bz2 := heap_cell HZ.out 2
  have bz3 := heap_cell HZ.out 3
  have bz4 := heap_cell HZ.out 4
  have bz5 := heap_cell HZ.out 5
  have bz6 := heap_cell HZ.out 6
  have cz0 := heap_cell HT.out 0
  have cz1 := heap_cell HT.out 1
  have cz2 := heap_cell HT.out 2
  have cz3 := heap_cell HT.out 3
  simp only [List.getElem?_toArray, List.getElem?_cons_zero, List.getElem?_cons_succ] at x0 x1 x2 x3 x4 x5 x6 d0 d1 d2 d3 bz0 bz1 bz2 bz3 bz4 bz5 bz6 cz0 cz1 cz2 cz3
  have fb0 := heap_frozen HZ.out 0
  have fb1 := heap_frozen HZ.out 1
  have fb2 := heap_frozen HZ.out 2
  have fb3 := heap_frozen HZ.out 3
  have fb4 := heap_frozen HZ.out 4
  have fb5 := heap_frozen HZ.out 5
  have fb6 := heap_frozen HZ.out 6
  have fc0 := heap_frozen HT.out 0
  have fc1 := heap_frozen HT.out 1
  have fc2 := heap_frozen HT.out 2
  have fc3 := heap_frozen HT.out 3
  have HF : Hid (doF n k wr0 r st 8 (key : Int) m text = gtF n k wr0 r st 8 key) := Lib.hid (doF_scrub hkey)
  rw [show keyB 8 = true from rfl] at r6
  have t3 : decide ((key : Int) < 0) = false := decide_eq_false (by omega)
  have t4 : decide ((2 : Int) < (key : Int)) = false := decide_eq_false (by omega)
  have t4' : decide (2 < key) = false := decide_eq_false (by omega)
  have CW := Lib.hid (ref_getOf (wr0 := wr0) (r := r) 8 (.inr rfl) key m text hkey hk1 hkn hn HSH.out ao ca Wm HRm.out HNO.out)
  rw [HLA.out, HMW.out] at CW
  unfold RefPost at CW
  obtain ⟨R, hRR⟩ : ∃ R, gtF n k wr0 r st 8 key = R := ⟨_, rfl⟩
  rw [hRR] at CW HF
  obtain ⟨st', ⟨tx, at', mn⟩, E⟩ := R
  clear hRR
  go_enter Try.func9, Try.ntmps9
  go_wp2_with fail
  (with_reducible refine CW.out.mono ?_)
  rintro e w2 ⟨D', All', ao', cap', rfl, hsh, hrd, hno, hbl, hb2⟩
  have HSH2 := Lib.hid hsh
  have HRD2 := Lib.hid hrd
  have HNO2 := Lib.hid hno
  have HBL2 := Lib.hid hbl
  have HB2 : Hid (Below w.heap.size w w2) := Lib.hid (HB.out.trans (hb2.mono HB.out.size))
  have HZ2 := Lib.hid ((hb2.block (w.heap.size + 2) (by have := HSZ.out; omega)).trans HZ.out)
  have HT2 := Lib.hid ((hb2.block (w.heap.size + 3) (by have := HSZ.out; omega)).trans HT.out)
  obtain ⟨la', hla'⟩ : ∃ la', All'.length = la' := ⟨_, rfl⟩
  obtain ⟨mw', hmw'⟩ : ∃ mw', st'.wr = mw' := ⟨_, rfl⟩
  have HLA2 := Lib.hid hla'
  have HMW2 := Lib.hid hmw'
  clear CW hsh hrd hno hbl hb2 x0 x1 x2 x3 x4 x5 x6 d0 d1 d2 d3 bz0 bz1 bz2 bz3 bz4 bz5 bz6 cz0 cz1 cz2 cz3 fb0 fb1 fb2 fb3 fb4 fb5 fb6 fc0 fc1 fc2 fc3 r1 r2 r3 r4 r5 r6 hmm
  simp only [hla', hmw']
  clear hla' hmw'
  have bz0 := heap_cell HZ2.out 0
  have bz1 := heap_cell HZ2.out 1
  have bz2 := heap_cell HZ2.out 2
  have bz3 := heap_cell HZ2.out 3
  have bz4 := heap_cell HZ2.out 4
  have bz5 := heap_cell HZ2.out 5
  have bz6 := heap_cell HZ2.out 6
  have cz0 := heap_cell HT2.out 0
  have cz1 := heap_cell HT2.out 1
  have cz2 := heap_cell HT2.out 2
  have cz3 := heap_cell HT2.out 3
  simp only [List.getElem?_toArray, List.getElem?_cons_zero, List.getElem?_cons_succ] at bz0 bz1 bz2 bz3 bz4 bz5 bz6 cz0 cz1 cz2 cz3
  have fb0 := heap_frozen HZ2.out 0
  have fb1 := heap_frozen HZ2.out 1
  have fb2 := heap_frozen HZ2.out 2
  have fb3 := heap_frozen HZ2.out 3
  have fb4 := heap_frozen HZ2.out 4
  have fb5 := heap_frozen HZ2.out 5
  have fb6 := heap_frozen HZ2.out 6
  have fc0 := heap_frozen HT2.out 0
  have fc1 := heap_frozen HT2.out 1
  have fc2 := heap_frozen HT2.out 2
  have fc3 := heap_frozen HT2.out 3
  obtain ⟨qq1, qq2⟩ := two_heaps (A := w.heap.size + 2) (B := w.heap.size + 3) (by omega) HZ2.out HT2.out (.int .i64 (n : Int)) (.int .i64 (k : Int)) (.int .i64 (wr0 : Int)) (.int .i64 (r : Int)) (.int .u16 (D' : Int)) (.int .i64 (mw' : Int)) (.slice ao' la' cap') (.string tx) (.int .i64 (at' : Int)) (.int .i64 0) (.int .i64 (mn : Int))
  have y0 := heap_cell qq1 0
  have y1 := heap_cell qq1 1
  have y2 := heap_cell qq1 2
  have y3 := heap_cell qq1 3
  have y4 := heap_cell qq1 4
  have y5 := heap_cell qq1 5
  have y6 := heap_cell qq1 6
  have z0 := heap_cell qq2 0
  have z1 := heap_cell qq2 1
  have z2 := heap_cell qq2 2
  have z3 := heap_cell qq2 3
  simp only [List.getElem?_toArray, List.getElem?_cons_zero, List.getElem?_cons_succ] at y0 y1 y2 y3 y4 y5 y6 z0 z1 z2 z3
  clear qq1 qq2
  have HBZ := Lib.hid (below_four (below_seven HB2.out (show w.heap.size ≤ w.heap.size + 2 by omega) (.int .i64 (n : Int)) (.int .i64 (k : Int)) (.int .i64 (wr0 : Int)) (.int .i64 (r : Int)) (.int .u16 (D' : Int)) (.int .i64 (mw' : Int)) (.slice ao' la' cap')) (show w.heap.size ≤ w.heap.size + 3 by omega) (.string tx) (.int .i64 (at' : Int)) (.int .i64 0) (.int .i64 (mn : Int)))
  have HFS0 := Lib.hid (below_four (below_seven (Below.refl 0 w2) (Nat.zero_le (w.heap.size + 2)) (.int .i64 (n : Int)) (.int .i64 (k : Int)) (.int .i64 (wr0 : Int)) (.int .i64 (r : Int)) (.int .u16 (D' : Int)) (.int .i64 (mw' : Int)) (.slice ao' la' cap')) (Nat.zero_le (w.heap.size + 3)) (.string tx) (.int .i64 (at' : Int)) (.int .i64 0) (.int .i64 (mn : Int))).size
  have HG := Lib.hid (fin_far HZ2.out HT2.out HRD2.out (W := _) (fun b o c h1 h2 hc => far4 (a0 := .string tx) (a1 := .int .i64 (at' : Int)) (a2 := .int .i64 0) (a3 := .int .i64 (mn : Int)) h2 (far7 (a0 := .int .i64 (n : Int)) (a1 := .int .i64 (k : Int)) (a2 := .int .i64 (wr0 : Int)) (a3 := .int .i64 (r : Int)) (a4 := .int .u16 (D' : Int)) (a5 := .int .i64 (mw' : Int)) (a6 := .slice ao' la' cap') h1 hc)))
  go_wp2_with fail
  refine bodyPost_ret (v := .tuple #[.agg (shC n k wr0 r D' mw' (.slice ao' la' cap')), .agg #[.string tx, .int .i64 (at' : Int), .int .i64 0, .int .i64 (mn : Int)], .int .i64 (E : Int)]) (by simp [results, Try.results9, go_sem, y0, y1, y2, y3, y4, y5, y6, z0, z1, z2, z3]; try rfl) rfl ?_
  rw [HF.out]
  refine ⟨D', All', ao', cap', ?_, HSH2.out, HG.out, HNO2.out, ?_, HBZ.out⟩
  · show Ending.returned _ = Ending.returned (.tuple #[.agg (shC n k wr0 r D' st'.wr (.slice ao' All'.length cap')), _, _])
    rw [HLA2.out, HMW2.out]
  · rcases HBL2.out with h | h
    · exact .inl h
    · exact .inr fun a ha => by have h2 := h a ha; have := HSZ.out; exact ⟨by omega, Nat.lt_of_lt_of_le h2.2 HFS0.out⟩
end Go.Proofs.Ytioecklnijhjgaa
