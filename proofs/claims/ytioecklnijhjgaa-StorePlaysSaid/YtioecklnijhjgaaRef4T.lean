/- The reference's writeOf at a torn write. (Printed by wip/tools/gen_ref4.py.) -/
import Derived.Test.YtioecklnijhjgaaPlM33
import Derived.Deep.Cut
set_option linter.unusedVariables false
set_option linter.unusedSimpArgs false
namespace Go.Proofs.Ytioecklnijhjgaa
open Go.RowKit

set_option maxRecDepth 100000 in
set_option maxHeartbeats 16000000 in
theorem ref_tornOf {n D k wr0 r : Nat} {All : List It} {st : St} (kind : Int) (hk12 : kind = 2) (key : Nat) (m : Int) (text : ByteArray) (hkey : key < 3) (ht : text.size ≤ 9223372036854775807) (hk1 : 1 ≤ k) (hkn : k ≤ n) (hn : n ≤ 10) (h : Shl n D All st) (ao : Option Addr) (ca : Nat) (w : World) (hR : Reads w ao (itCells All)) (hnone : ao = none → All.length = 0 ∧ ca = 0) :
    Calls Try.prog 23 #[.agg (shC n k wr0 r D st.wr (.slice ao All.length ca)), deedV kind (key : Int) m text] w (RefPost n k wr0 r ao (wrF n k wr0 st kind key m text) w) := by
  have HK12 := Lib.hid hk12
  clear hk12
  obtain ⟨la, hla⟩ : ∃ la, All.length = la := ⟨_, rfl⟩
  obtain ⟨mw, hmw⟩ : ∃ mw, st.wr = mw := ⟨_, rfl⟩
  rw [hla, hmw]
  have hl3 : la ≤ 30000000 := by rw [← hla]; exact h.len hn
  have hm6 : mw ≤ 1000000 := by rw [← hmw]; exact h.ok.w6
  obtain ⟨W1, hW1⟩ : ∃ W1, (((w.alloc (.cells (shC n k wr0 r D mw (.slice ao la ca)) 33)).alloc (.cells #[.int .i64 kind, .int .i64 (key : Int), .int .i64 m, .string text] 36)).alloc (.cells #[.int .i64 0, .int .i64 0, .int .i64 0, .int .i64 0, .int .u16 0, .int .i64 0, .slice none 0 0] 33)).alloc (.cells #[.string ⟨#[]⟩, .int .i64 0, .int .i64 0, .int .i64 0] 40) = W1 := ⟨_, rfl⟩
  have hb0 := below_alloc w (.cells (shC n k wr0 r D mw (.slice ao la ca)) 33)
  have hb1 : Below w.heap.size w W1 := by rw [← hW1]; exact ((hb0.alloc (by simp) _).alloc (by simp; omega) _).alloc (by simp; omega) _
  have hx1 : W1.heap[w.heap.size]? = some (.cells (shC n k wr0 r D mw (.slice ao la ca)) 33 (0, 0)) := by rw [← hW1]; exact heap_alloc_old _ _ (heap_alloc_old _ _ (heap_alloc_old _ _ (heap_alloc_new w _)))
  have hd1 : W1.heap[w.heap.size + 1]? = some (.cells #[.int .i64 kind, .int .i64 (key : Int), .int .i64 m, .string text] 36 (0, 0)) := by rw [← hW1]; exact heap_alloc_old _ _ (heap_alloc_old _ _ (heap_new' _ _ _ (by simp)))
  have hz1 : W1.heap[w.heap.size + 2]? = some (.cells #[.int .i64 0, .int .i64 0, .int .i64 0, .int .i64 0, .int .u16 0, .int .i64 0, .slice none 0 0] 33 (0, 0)) := by rw [← hW1]; exact heap_alloc_old _ _ (heap_new' _ _ _ (by simp))
  have ht1 : W1.heap[w.heap.size + 3]? = some (.cells #[.string ⟨#[]⟩, .int .i64 0, .int .i64 0, .int .i64 0] 40 (0, 0)) := by rw [← hW1]; exact heap_new' _ _ _ (by simp)
  have hs1 : W1.heap.size = w.heap.size + 4 := by rw [← hW1]; simp
  have x0 := heap_cell hx1 0
  have x1 := heap_cell hx1 1
  have x2 := heap_cell hx1 2
  have x3 := heap_cell hx1 3
  have x4 := heap_cell hx1 4
  have x5 := heap_cell hx1 5
  have x6 := heap_cell hx1 6
  simp only [List.getElem?_toArray, List.getElem?_cons_zero, List.getElem?_cons_succ] at x0 x1 x2 x3 x4 x5 x6
  have CU := Lib.hid (ref_Ups k wr0 r mw (.slice ao la ca) W1 hn ⟨_, _, _, rfl⟩ h)
  unfold UpPost at CU
  have HUM : Hid (∀ i, i ∈ ups n st → i < n) := Lib.hid fun i hi => (mem_ups.1 hi).1
  have HND : Hid (ups n st).Nodup := Lib.hid (pl_nodup _ _)
  have hul := ups_len n st
  have HSPL : Hid (splE n wr0 st text = if 60 < text.size then 2 else if (ups n st).length < wr0 then 9 else if mw = 1000000 then 11 else 0) := Lib.hid (by unfold splE; rw [hmw])
  obtain ⟨U, hU⟩ : ∃ U, ups n st = U := ⟨_, rfl⟩
  rw [hU] at CU HUM hul HND HSPL
  obtain ⟨u, hu⟩ : ∃ u, U.length = u := ⟨_, rfl⟩
  rw [hu] at CU hul HSPL
  have HU := Lib.hid hU
  have HUL := Lib.hid hu
  have HB1 := Lib.hid hb1
  have HX1 := Lib.hid hx1
  have HD1 := Lib.hid hd1
  have HZ1 := Lib.hid hz1
  have HT1 := Lib.hid ht1
  have HS1 := Lib.hid hs1
  have HLA := Lib.hid hla
  have HMW := Lib.hid hmw
  have HR := Lib.hid hR
  have HNO := Lib.hid hnone
  have HSH := Lib.hid h
  clear h hb0 hb1 hx1 hd1 hz1 ht1 hs1 hU hu hla hmw hR hnone
  go_enter Try.func23, Try.ntmps23
  go_wp2_with fail
  (with_reducible refine CU.out.mono ?_)
  clear hW1 x0 x1 x2 x3 x4 x5 x6
  rintro e w2 ⟨ao2, cap2, rfl, hown2, hb2⟩
  have HB12 := Lib.hid hb2
  have HB2 : Hid (Below w.heap.size w w2) := Lib.hid (HB1.out.trans (hb2.mono HB1.out.size))
  have HX2 := Lib.hid ((hb2.block w.heap.size (by rw [HS1.out]; omega)).trans HX1.out)
  have HD2 := Lib.hid ((hb2.block (w.heap.size + 1) (by rw [HS1.out]; omega)).trans HD1.out)
  have HZ2 := Lib.hid ((hb2.block (w.heap.size + 2) (by rw [HS1.out]; omega)).trans HZ1.out)
  have HT2 := Lib.hid ((hb2.block (w.heap.size + 3) (by rw [HS1.out]; omega)).trans HT1.out)
  have HS2 : Hid (w.heap.size + 4 ≤ w2.heap.size) := Lib.hid (by have := hb2.size; have := HS1.out; omega)
  have HOU := Lib.hid hown2
  clear hb2 hown2 CU
  have x0 := heap_cell HX2.out 0
  have x1 := heap_cell HX2.out 1
  have x2 := heap_cell HX2.out 2
  have x3 := heap_cell HX2.out 3
  have x4 := heap_cell HX2.out 4
  have x5 := heap_cell HX2.out 5
  have x6 := heap_cell HX2.out 6
  have d0 := heap_cell HD2.out 0
  have d1 := heap_cell HD2.out 1
  have d2 := heap_cell HD2.out 2
  have d3 := heap_cell HD2.out 3
  have b0 := heap_cell HZ2.out 0
  have b1 := heap_cell HZ2.out 1
  have b2 := heap_cell HZ2.out 2
  have b3 := heap_cell HZ2.out 3
  have b4 := heap_cell HZ2.out 4
  have b5 := heap_cell HZ2.out 5
  have b6 := heap_cell HZ2.out 6
  have c0 := heap_cell HT2.out 0
  have c1 := heap_cell HT2.out 1
  have c2 := heap_cell HT2.out 2
  have c3 := heap_cell HT2.out 3
  simp only [List.getElem?_toArray, List.getElem?_cons_zero, List.getElem?_cons_succ] at x0 x1 x2 x3 x4 x5 x6 d0 d1 d2 d3 b0 b1 b2 b3 b4 b5 b6 c0 c1 c2 c3
  have fb0 := heap_frozen HZ2.out 0
  have fb1 := heap_frozen HZ2.out 1
  have fb2 := heap_frozen HZ2.out 2
  have fb3 := heap_frozen HZ2.out 3
  have fb4 := heap_frozen HZ2.out 4
  have fb5 := heap_frozen HZ2.out 5
  have fb6 := heap_frozen HZ2.out 6
  have fc0 := heap_frozen HT2.out 0
  have fc1 := heap_frozen HT2.out 1
  have fc2 := heap_frozen HT2.out 2
  have fc3 := heap_frozen HT2.out 3
  by_cases g1 : 60 < text.size
  · have HF : Hid (wrF n k wr0 st kind key m text = (st, Tl.no, 2)) := Lib.hid (by
      have e : splE n wr0 st text = 2 := by rw [HSPL.out, if_pos g1]
      rw [wrF_err (by rw [e]; decide), e])
    have t1 : decide ((60 : Int) < (text.size : Int)) = true := by simp; omega
    have t1' : decide (60 < text.size) = true := by simp; omega
    clear g1
    obtain ⟨qq1, qq2⟩ := two_heaps (A := w.heap.size + 2) (B := w.heap.size + 3) (by omega) HZ2.out HT2.out (.int .i64 (n : Int)) (.int .i64 (k : Int)) (.int .i64 (wr0 : Int)) (.int .i64 (r : Int)) (.int .u16 (D : Int)) (.int .i64 (mw : Int)) (.slice ao la ca) (.string ⟨#[]⟩) (.int .i64 0) (.int .i64 0) (.int .i64 0)
    have y0 := heap_cell qq1 0
    have y1 := heap_cell qq1 1
    have y2 := heap_cell qq1 2
    have y3 := heap_cell qq1 3
    have y4 := heap_cell qq1 4
    have y5 := heap_cell qq1 5
    have y6 := heap_cell qq1 6
    have z0 := heap_cell qq2 0
    have z1 := heap_cell qq2 1
    have z2 := heap_cell qq2 2
    have z3 := heap_cell qq2 3
    simp only [List.getElem?_toArray, List.getElem?_cons_zero, List.getElem?_cons_succ] at y0 y1 y2 y3 y4 y5 y6 z0 z1 z2 z3
    clear qq1 qq2
    have HBZ := Lib.hid (below_four (below_seven HB2.out (show w.heap.size ≤ w.heap.size + 2 by omega) (.int .i64 (n : Int)) (.int .i64 (k : Int)) (.int .i64 (wr0 : Int)) (.int .i64 (r : Int)) (.int .u16 (D : Int)) (.int .i64 (mw : Int)) (.slice ao la ca)) (show w.heap.size ≤ w.heap.size + 3 by omega) (.string ⟨#[]⟩) (.int .i64 0) (.int .i64 0) (.int .i64 0))
    go_wp2_with fail
    refine bodyPost_ret (v := .tuple #[.agg (shC n k wr0 r D mw (.slice ao la ca)), .agg #[.string ⟨#[]⟩, .int .i64 0, .int .i64 0, .int .i64 0], .int .i64 2]) (by simp [results, Try.results23, go_sem, y0, y1, y2, y3, y4, y5, y6, z0, z1, z2, z3]; try rfl) rfl ?_
    rw [HF.out]
    exact ⟨D, All, ao, ca, by rw [HLA.out, HMW.out]; rfl, HSH.out, HR.out.below HBZ.out, HNO.out, .inl rfl, HBZ.out⟩
  have t1 : decide ((60 : Int) < (text.size : Int)) = false := by simp; omega
  have t1' : decide (60 < text.size) = false := by simp; omega
  by_cases g2 : u < wr0
  · have HF : Hid (wrF n k wr0 st kind key m text = (st, Tl.no, 9)) := Lib.hid (by
      have e : splE n wr0 st text = 9 := by rw [HSPL.out, if_neg g1, if_pos g2]
      rw [wrF_err (by rw [e]; decide), e])
    have t2 : decide ((u : Int) < (wr0 : Int)) = true := by simp; omega
    have t2' : decide (u < wr0) = true := by simp; omega
    clear g1 g2
    obtain ⟨qq1, qq2⟩ := two_heaps (A := w.heap.size + 2) (B := w.heap.size + 3) (by omega) HZ2.out HT2.out (.int .i64 (n : Int)) (.int .i64 (k : Int)) (.int .i64 (wr0 : Int)) (.int .i64 (r : Int)) (.int .u16 (D : Int)) (.int .i64 (mw : Int)) (.slice ao la ca) (.string ⟨#[]⟩) (.int .i64 0) (.int .i64 0) (.int .i64 0)
    have y0 := heap_cell qq1 0
    have y1 := heap_cell qq1 1
    have y2 := heap_cell qq1 2
    have y3 := heap_cell qq1 3
    have y4 := heap_cell qq1 4
    have y5 := heap_cell qq1 5
    have y6 := heap_cell qq1 6
    have z0 := heap_cell qq2 0
    have z1 := heap_cell qq2 1
    have z2 := heap_cell qq2 2
    have z3 := heap_cell qq2 3
    simp only [List.getElem?_toArray, List.getElem?_cons_zero, List.getElem?_cons_succ] at y0 y1 y2 y3 y4 y5 y6 z0 z1 z2 z3
    clear qq1 qq2
    have HBZ := Lib.hid (below_four (below_seven HB2.out (show w.heap.size ≤ w.heap.size + 2 by omega) (.int .i64 (n : Int)) (.int .i64 (k : Int)) (.int .i64 (wr0 : Int)) (.int .i64 (r : Int)) (.int .u16 (D : Int)) (.int .i64 (mw : Int)) (.slice ao la ca)) (show w.heap.size ≤ w.heap.size + 3 by omega) (.string ⟨#[]⟩) (.int .i64 0) (.int .i64 0) (.int .i64 0))
    go_wp2_with fail
    refine bodyPost_ret (v := .tuple #[.agg (shC n k wr0 r D mw (.slice ao la ca)), .agg #[.string ⟨#[]⟩, .int .i64 0, .int .i64 0, .int .i64 0], .int .i64 9]) (by simp [results, Try.results23, go_sem, y0, y1, y2, y3, y4, y5, y6, z0, z1, z2, z3]; try rfl) rfl ?_
    rw [HF.out]
    exact ⟨D, All, ao, ca, by rw [HLA.out, HMW.out]; rfl, HSH.out, HR.out.below HBZ.out, HNO.out, .inl rfl, HBZ.out⟩
  have t2 : decide ((u : Int) < (wr0 : Int)) = false := by simp; omega
  have t2' : decide (u < wr0) = false := by simp; omega
  by_cases g3 : mw = 1000000
  · have HF : Hid (wrF n k wr0 st kind key m text = (st, Tl.no, 11)) := Lib.hid (by
      have e : splE n wr0 st text = 11 := by rw [HSPL.out, if_neg g1, if_neg g2, if_pos g3]
      rw [wrF_err (by rw [e]; decide), e])
    have t3 : ((mw : Int) == 1000000) = true := by simp; omega
    clear g1 g2 g3
    obtain ⟨qq1, qq2⟩ := two_heaps (A := w.heap.size + 2) (B := w.heap.size + 3) (by omega) HZ2.out HT2.out (.int .i64 (n : Int)) (.int .i64 (k : Int)) (.int .i64 (wr0 : Int)) (.int .i64 (r : Int)) (.int .u16 (D : Int)) (.int .i64 (mw : Int)) (.slice ao la ca) (.string ⟨#[]⟩) (.int .i64 0) (.int .i64 0) (.int .i64 0)
    have y0 := heap_cell qq1 0
    have y1 := heap_cell qq1 1
    have y2 := heap_cell qq1 2
    have y3 := heap_cell qq1 3
    have y4 := heap_cell qq1 4
    have y5 := heap_cell qq1 5
    have y6 := heap_cell qq1 6
    have z0 := heap_cell qq2 0
    have z1 := heap_cell qq2 1
    have z2 := heap_cell qq2 2
    have z3 := heap_cell qq2 3
    simp only [List.getElem?_toArray, List.getElem?_cons_zero, List.getElem?_cons_succ] at y0 y1 y2 y3 y4 y5 y6 z0 z1 z2 z3
    clear qq1 qq2
    have HBZ := Lib.hid (below_four (below_seven HB2.out (show w.heap.size ≤ w.heap.size + 2 by omega) (.int .i64 (n : Int)) (.int .i64 (k : Int)) (.int .i64 (wr0 : Int)) (.int .i64 (r : Int)) (.int .u16 (D : Int)) (.int .i64 (mw : Int)) (.slice ao la ca)) (show w.heap.size ≤ w.heap.size + 3 by omega) (.string ⟨#[]⟩) (.int .i64 0) (.int .i64 0) (.int .i64 0))
    go_wp2_with fail
    refine bodyPost_ret (v := .tuple #[.agg (shC n k wr0 r D mw (.slice ao la ca)), .agg #[.string ⟨#[]⟩, .int .i64 0, .int .i64 0, .int .i64 0], .int .i64 11]) (by simp [results, Try.results23, go_sem, y0, y1, y2, y3, y4, y5, y6, z0, z1, z2, z3]; try rfl) rfl ?_
    rw [HF.out]
    exact ⟨D, All, ao, ca, by rw [HLA.out, HMW.out]; rfl, HSH.out, HR.out.below HBZ.out, HNO.out, .inl rfl, HBZ.out⟩
  have t3 : ((mw : Int) == 1000000) = false := by simp; omega
  have HE0 : Hid (splE n wr0 st text = 0) := Lib.hid (by rw [HSPL.out, if_neg g1, if_neg g2, if_neg g3])
  have HT60 : Hid (text.size ≤ 60) := Lib.hid (by omega)
  have HMN : Hid (st.wr ≠ 1000000) := Lib.hid (by rw [HMW.out]; exact g3)
  have CS := Lib.hid (fun W => ref_SplitOf text k n W HT60.out hk1 hkn hn)
  unfold SplitOfPost at CS
  obtain ⟨A, hA⟩ : ∃ A, mw + 1 = A := ⟨_, rfl⟩
  have wadd : ((mw : Nat) : Int) + 1 = (A : Int) := by omega
  have hA6 : A ≤ 1000000 := by omega
  have HA := Lib.hid hA
  clear g1 g2 g3 hA HSPL
  go_wp2_with fail
  (with_reducible refine (CS.out _).mono ?_)
  rintro e w3 ⟨ap, cp, rfl, hRp, hb3⟩
  have HRP : Hid (Reads w3 ap (rowF n fun j => .string (pcs text k j))) := Lib.hid hRp
  have HB23 := Lib.hid hb3
  clear hRp hb3 CS
  have HB24 : Hid (Below w2.heap.size w2 (w3.alloc (.cells #[.int .i64 (A : Int), .int .i64 0] 38))) := Lib.hid (HB23.out.alloc HB23.out.size _)
  obtain ⟨W4, hW4⟩ : ∃ W4, w3.alloc (.cells #[.int .i64 (A : Int), .int .i64 0] 38) = W4 := ⟨_, rfl⟩
  rw [hW4] at HB24
  have HAT4 : Hid (W4.heap[w3.heap.size]? = some (.cells #[.int .i64 (A : Int), .int .i64 0] 38 (0, 0))) := Lib.hid (by rw [← hW4]; exact heap_alloc_new _ _)
  have HX4 := Lib.hid ((HB24.out.block w.heap.size (by have := HS2.out; omega)).trans HX2.out)
  have HD4 := Lib.hid ((HB24.out.block (w.heap.size + 1) (by have := HS2.out; omega)).trans HD2.out)
  have HZ4 := Lib.hid ((HB24.out.block (w.heap.size + 2) (by have := HS2.out; omega)).trans HZ2.out)
  have HT4 := Lib.hid ((HB24.out.block (w.heap.size + 3) (by have := HS2.out; omega)).trans HT2.out)
  have HS4 : Hid (w.heap.size + 4 ≤ W4.heap.size ∧ w3.heap.size < W4.heap.size) := Lib.hid (by
    have h1 := HB24.out.size
    have h2 := HS2.out
    have h3 : W4.heap.size = w3.heap.size + 1 := by rw [← hW4]; simp
    omega)
  have HB4 : Hid (Below w.heap.size w W4) := Lib.hid (HB2.out.trans (HB24.out.mono HB2.out.size))
  have HRP4 : Hid (Reads W4 ap (rowF n fun j => .string (pcs text k j))) := Lib.hid (by rw [← hW4]; exact HRP.out.alloc _)
  have HRU4 : Hid (Reads W4 ao2 (placeR U)) := Lib.hid ((own_reads' HOU.out).below HB24.out)
  have HR4 : Hid (Reads W4 ao (itCells All)) := Lib.hid (HR.out.below HB4.out)
  have HW4 := Lib.hid hW4
  clear hW4 x0 x1 x2 x3 x4 x5 x6 d0 d1 d2 d3 b0 b1 b2 b3 b4 b5 b6 c0 c1 c2 c3 fb0 fb1 fb2 fb3 fb4 fb5 fb6 fc0 fc1 fc2 fc3
  have HX3 := Lib.hid ((HB23.out.block w.heap.size (by have := HS2.out; omega)).trans HX2.out)
  have HD3 := Lib.hid ((HB23.out.block (w.heap.size + 1) (by have := HS2.out; omega)).trans HD2.out)
  have x5 := heap_cell HX3.out 5
  have x6 := heap_cell HX3.out 6
  have d0 := heap_cell HD3.out 0
  have d2 := heap_cell HD3.out 2
  simp only [List.getElem?_toArray, List.getElem?_cons_zero, List.getElem?_cons_succ] at x5 x6 d0 d2
  have hba3 := below_alloc w3 (.cells #[.int .i64 (A : Int), .int .i64 0] 38)
  have hlt3 : w.heap.size + 4 ≤ w3.heap.size := by have := HB23.out.size; have := HS2.out; omega
  have e6 := (hba3.cell (p := ⟨w.heap.size, 6, none⟩) (show w.heap.size < w3.heap.size by omega)).trans x6
  have e0 := (hba3.cell (p := ⟨w.heap.size + 1, 0, none⟩) (show w.heap.size + 1 < w3.heap.size by omega)).trans d0
  have e2 := (hba3.cell (p := ⟨w.heap.size + 1, 2, none⟩) (show w.heap.size + 1 < w3.heap.size by omega)).trans d2
  clear hba3
  obtain rfl := HK12.out
  · go_upto_region 10 with (fail)
    rw [HW4.out]
    clear e6 e0 e2 d0 d2 x5 x6
    have x0 := heap_cell HX4.out 0
    have x1 := heap_cell HX4.out 1
    have x2 := heap_cell HX4.out 2
    have x3 := heap_cell HX4.out 3
    have x4 := heap_cell HX4.out 4
    have x5 := heap_cell HX4.out 5
    have x6 := heap_cell HX4.out 6
    have d0 := heap_cell HD4.out 0
    have d1 := heap_cell HD4.out 1
    have d2 := heap_cell HD4.out 2
    have d3 := heap_cell HD4.out 3
    have b0 := heap_cell HZ4.out 0
    have b1 := heap_cell HZ4.out 1
    have b2 := heap_cell HZ4.out 2
    have b3 := heap_cell HZ4.out 3
    have b4 := heap_cell HZ4.out 4
    have b5 := heap_cell HZ4.out 5
    have b6 := heap_cell HZ4.out 6
    have c0 := heap_cell HT4.out 0
    have c1 := heap_cell HT4.out 1
    have c2 := heap_cell HT4.out 2
    have c3 := heap_cell HT4.out 3
    simp only [List.getElem?_toArray, List.getElem?_cons_zero, List.getElem?_cons_succ] at x0 x1 x2 x3 x4 x5 x6 d0 d1 d2 d3 b0 b1 b2 b3 b4 b5 b6 c0 c1 c2 c3
    have fb0 := heap_frozen HZ4.out 0
    have fb1 := heap_frozen HZ4.out 1
    have fb2 := heap_frozen HZ4.out 2
    have fb3 := heap_frozen HZ4.out 3
    have fb4 := heap_frozen HZ4.out 4
    have fb5 := heap_frozen HZ4.out 5
    have fb6 := heap_frozen HZ4.out 6
    have fc0 := heap_frozen HT4.out 0
    have fc1 := heap_frozen HT4.out 1
    have fc2 := heap_frozen HT4.out 2
    have fc3 := heap_frozen HT4.out 3
    try clear d3
    by_cases g0 : m < 0 ∨ (u : Int) < m
    · have HF : Hid (wrF n k wr0 st 2 key m text = (st, Tl.no, 1)) := Lib.hid (by
        unfold wrF
        rw [if_pos rfl]
        unfold tornF
        rw [if_neg (fun h => h HE0.out), HU.out, HUL.out, if_pos g0])
      by_cases g1 : m < 0
      · have t4 : decide (m < 0) = true := decide_eq_true g1
        clear g0 g1
        obtain ⟨qq1, qq2⟩ := two_heaps (A := w.heap.size + 2) (B := w.heap.size + 3) (by omega) HZ4.out HT4.out (.int .i64 (n : Int)) (.int .i64 (k : Int)) (.int .i64 (wr0 : Int)) (.int .i64 (r : Int)) (.int .u16 (D : Int)) (.int .i64 (mw : Int)) (.slice ao la ca) (.string ⟨#[]⟩) (.int .i64 0) (.int .i64 0) (.int .i64 0)
        have y0 := heap_cell qq1 0
        have y1 := heap_cell qq1 1
        have y2 := heap_cell qq1 2
        have y3 := heap_cell qq1 3
        have y4 := heap_cell qq1 4
        have y5 := heap_cell qq1 5
        have y6 := heap_cell qq1 6
        have z0 := heap_cell qq2 0
        have z1 := heap_cell qq2 1
        have z2 := heap_cell qq2 2
        have z3 := heap_cell qq2 3
        simp only [List.getElem?_toArray, List.getElem?_cons_zero, List.getElem?_cons_succ] at y0 y1 y2 y3 y4 y5 y6 z0 z1 z2 z3
        clear qq1 qq2
        have HBZ := Lib.hid (below_four (below_seven HB4.out (show w.heap.size ≤ w.heap.size + 2 by omega) (.int .i64 (n : Int)) (.int .i64 (k : Int)) (.int .i64 (wr0 : Int)) (.int .i64 (r : Int)) (.int .u16 (D : Int)) (.int .i64 (mw : Int)) (.slice ao la ca)) (show w.heap.size ≤ w.heap.size + 3 by omega) (.string ⟨#[]⟩) (.int .i64 0) (.int .i64 0) (.int .i64 0))
        go_wp2_with fail
        refine bodyPost_ret (v := .tuple #[.agg (shC n k wr0 r D mw (.slice ao la ca)), .agg #[.string ⟨#[]⟩, .int .i64 0, .int .i64 0, .int .i64 0], .int .i64 1]) (by simp [results, Try.results23, go_sem, y0, y1, y2, y3, y4, y5, y6, z0, z1, z2, z3]; try rfl) rfl ?_
        rw [HF.out]
        exact ⟨D, All, ao, ca, by rw [HLA.out, HMW.out]; rfl, HSH.out, HR.out.below HBZ.out, HNO.out, .inl rfl, HBZ.out⟩
      · have t4 : decide (m < 0) = false := decide_eq_false g1
        have t5 : decide ((u : Int) < m) = true := decide_eq_true (by omega)
        clear g0 g1
        obtain ⟨qq1, qq2⟩ := two_heaps (A := w.heap.size + 2) (B := w.heap.size + 3) (by omega) HZ4.out HT4.out (.int .i64 (n : Int)) (.int .i64 (k : Int)) (.int .i64 (wr0 : Int)) (.int .i64 (r : Int)) (.int .u16 (D : Int)) (.int .i64 (mw : Int)) (.slice ao la ca) (.string ⟨#[]⟩) (.int .i64 0) (.int .i64 0) (.int .i64 0)
        have y0 := heap_cell qq1 0
        have y1 := heap_cell qq1 1
        have y2 := heap_cell qq1 2
        have y3 := heap_cell qq1 3
        have y4 := heap_cell qq1 4
        have y5 := heap_cell qq1 5
        have y6 := heap_cell qq1 6
        have z0 := heap_cell qq2 0
        have z1 := heap_cell qq2 1
        have z2 := heap_cell qq2 2
        have z3 := heap_cell qq2 3
        simp only [List.getElem?_toArray, List.getElem?_cons_zero, List.getElem?_cons_succ] at y0 y1 y2 y3 y4 y5 y6 z0 z1 z2 z3
        clear qq1 qq2
        have HBZ := Lib.hid (below_four (below_seven HB4.out (show w.heap.size ≤ w.heap.size + 2 by omega) (.int .i64 (n : Int)) (.int .i64 (k : Int)) (.int .i64 (wr0 : Int)) (.int .i64 (r : Int)) (.int .u16 (D : Int)) (.int .i64 (mw : Int)) (.slice ao la ca)) (show w.heap.size ≤ w.heap.size + 3 by omega) (.string ⟨#[]⟩) (.int .i64 0) (.int .i64 0) (.int .i64 0))
        go_wp2_with fail
        refine bodyPost_ret (v := .tuple #[.agg (shC n k wr0 r D mw (.slice ao la ca)), .agg #[.string ⟨#[]⟩, .int .i64 0, .int .i64 0, .int .i64 0], .int .i64 1]) (by simp [results, Try.results23, go_sem, y0, y1, y2, y3, y4, y5, y6, z0, z1, z2, z3]; try rfl) rfl ?_
        rw [HF.out]
        exact ⟨D, All, ao, ca, by rw [HLA.out, HMW.out]; rfl, HSH.out, HR.out.below HBZ.out, HNO.out, .inl rfl, HBZ.out⟩
    obtain ⟨M, rfl⟩ : ∃ M : Nat, m = M := ⟨m.toNat, by omega⟩
    have hMu : M ≤ u := by omega
    have hcap := (own_capN HOU.out).1
    have hcap2 := (own_capN HOU.out).2
    have t4 : decide ((M : Int) < 0) = false := decide_eq_false (by omega)
    have t5 : decide ((u : Int) < (M : Int)) = false := decide_eq_false (by omega)
    have t5' : decide (u < M) = false := decide_eq_false (by omega)
    have m0 : (0 : Int) ≤ (M : Int) := by omega
    have m1 : (M : Int) ≤ (cap2 : Int) := by omega
    have m1' : M ≤ cap2 := by omega
    clear g0
    obtain ⟨UM, hUM⟩ : ∃ UM, U.take M = UM := ⟨_, rfl⟩
    have hML : UM.length = M := by rw [← hUM, List.length_take]; have := HUL.out; omega
    have HUMN : Hid (∀ i, i ∈ UM → i < n) := Lib.hid fun i hi => HUM.out i (by rw [← hUM] at hi; exact List.mem_of_mem_take hi)
    have HNDM : Hid UM.Nodup := Lib.hid (by rw [← hUM]; exact HND.out.sublist (List.take_sublist _ _))
    have HRM : Hid (Reads W4 ao2 (placeR UM)) := Lib.hid (by
      intro j v hv
      apply HRU4.out j v
      rw [← hUM] at hv
      unfold placeR at hv ⊢
      rw [List.getElem?_map] at hv ⊢
      rw [List.getElem?_take] at hv
      split at hv
      · exact hv
      · cases hv)
    have HML := Lib.hid hML
    have HUMT := Lib.hid hUM
    have HUT : Hid (UM.take M = UM) := Lib.hid (List.take_of_length_le (by rw [HML.out]; exact Nat.le_refl _))
    have HF0 : Hid (wrF n k wr0 st 2 key (M : Int) text = if UM.any (fun i => decide (8 ≤ (st.kp i key).length)) = true then (st, Tl.no, 11) else (UM.foldl (tornS A k text key) st.up1, ⟨ByteArray.empty, A, 0⟩, 0)) := Lib.hid (by
      unfold wrF
      rw [if_pos rfl]
      unfold tornF
      rw [if_neg (fun h => h HE0.out), HU.out, HUL.out, if_neg (by omega)]
      rw [Int.toNat_natCast, hUM, HMW.out, HA.out])
    clear hUM hML b0 b1 b2 b3 b4 b5 b6 c0 c1 c2 c3 fb0 fb1 fb2 fb3 fb4 fb5 fb6 fc0 fc1 fc2 fc3
    go_wp2_with fail
    clear x0 x1 x2 x3 x4 x5 x6 d0 d1 d2
    go_loopw [77] (fun vj wr => ∃ j : Nat, vj = .int .i64 j ∧ j ≤ M ∧ Hid (Below W4.heap.size W4 wr) ∧ Hid (∀ i, i ∈ UM.take j → (st.kp i key).length < 8)) (fun vj _ => M - (intOf vj).toNat)
    case atStart => exact ⟨0, rfl, by omega, Lib.hid (Below.refl _ _), Lib.hid (by intro i hi; cases hi)⟩
    case round =>
      obtain ⟨j, rfl, hj, HB, HLT⟩ := hrel
      obtain ⟨wq, rfl⟩ : ∃ wq, wq = wr := ⟨_, rfl⟩
      by_cases hju : j < M
      · obtain ⟨i, hi⟩ : ∃ i, UM[j]? = some i := ⟨UM[j]'(by rw [HML.out]; exact hju), List.getElem?_eq_getElem _⟩
        have hin := HUMN.out i (List.mem_of_getElem? hi)
        obtain ⟨bu, ou, hra, xu⟩ := (HRM.out.below HB.out) j _ (placeR_at hi)
        cases hra
        have HXq := Lib.hid ((HB.out.block w.heap.size (by have := HS4.out.1; omega)).trans HX4.out)
        have HDq := Lib.hid ((HB.out.block (w.heap.size + 1) (by have := HS4.out.1; omega)).trans HD4.out)
        have HRq := Lib.hid (HR4.out.below HB.out)
        have x0 := heap_cell HXq.out 0
        have x1 := heap_cell HXq.out 1
        have x2 := heap_cell HXq.out 2
        have x3 := heap_cell HXq.out 3
        have x4 := heap_cell HXq.out 4
        have x5 := heap_cell HXq.out 5
        have x6 := heap_cell HXq.out 6
        have d1 := heap_cell HDq.out 1
        simp only [List.getElem?_toArray, List.getElem?_cons_zero, List.getElem?_cons_succ] at x0 x1 x2 x3 x4 x5 x6 d1
        have CK := Lib.hid (ref_KeptAt n k wr0 r D mw ao la ca All i key wq HLA.out hl3 HRq)
        unfold KeptPost at CK
        rw [HSH.out.kp i key hin hkey] at CK
        have HTK : Hid (UM.take (j + 1) = UM.take j ++ [i]) := Lib.hid (take_snocN hi)
        have hmem : Hid (i ∈ UM) := Lib.hid (List.mem_of_getElem? hi)
        clear hi
        go_wp2_with fail
        (with_reducible refine CK.out.mono ?_)
        rintro e w7 ⟨a7, c7, rfl, ho7, hb7⟩
        have HB47 : Hid (Below W4.heap.size W4 w7) := Lib.hid (HB.out.trans (hb7.mono HB.out.size))
        clear ho7 hb7 CK x0 x1 x2 x3 x4 x5 x6 d1
        obtain ⟨lk, hlk⟩ : ∃ lk, (st.kp i key).length = lk := ⟨_, rfl⟩
        rw [hlk]
        by_cases g8 : 8 ≤ lk
        · have t8 : decide ((8 : Int) ≤ (lk : Int)) = true := decide_eq_true (by omega)
          have t8' : decide (8 ≤ lk) = true := decide_eq_true (by omega)
          have HF : Hid (wrF n k wr0 st 2 key (M : Int) text = (st, Tl.no, 11)) := Lib.hid (by
            rw [HF0.out, if_pos (List.any_eq_true.2 ⟨i, hmem.out, decide_eq_true (by rw [hlk]; exact g8)⟩)])
          have HX7 := Lib.hid ((HB47.out.block w.heap.size (by have := HS4.out.1; omega)).trans HX4.out)
          have HD7 := Lib.hid ((HB47.out.block (w.heap.size + 1) (by have := HS4.out.1; omega)).trans HD4.out)
          have HZ7 := Lib.hid ((HB47.out.block (w.heap.size + 2) (by have := HS4.out.1; omega)).trans HZ4.out)
          have HT7 := Lib.hid ((HB47.out.block (w.heap.size + 3) (by have := HS4.out.1; omega)).trans HT4.out)
          have HB7 : Hid (Below w.heap.size w w7) := Lib.hid (HB4.out.trans (HB47.out.mono HB4.out.size))
          clear g8 hlk
          have x0 := heap_cell HX7.out 0
          have x1 := heap_cell HX7.out 1
          have x2 := heap_cell HX7.out 2
          have x3 := heap_cell HX7.out 3
          have x4 := heap_cell HX7.out 4
          have x5 := heap_cell HX7.out 5
          have x6 := heap_cell HX7.out 6
          have d0 := heap_cell HD7.out 0
          have d1 := heap_cell HD7.out 1
          have d2 := heap_cell HD7.out 2
          have d3 := heap_cell HD7.out 3
          have b0 := heap_cell HZ7.out 0
          have b1 := heap_cell HZ7.out 1
          have b2 := heap_cell HZ7.out 2
          have b3 := heap_cell HZ7.out 3
          have b4 := heap_cell HZ7.out 4
          have b5 := heap_cell HZ7.out 5
          have b6 := heap_cell HZ7.out 6
          have c0 := heap_cell HT7.out 0
          have c1 := heap_cell HT7.out 1
          have c2 := heap_cell HT7.out 2
          have c3 := heap_cell HT7.out 3
          simp only [List.getElem?_toArray, List.getElem?_cons_zero, List.getElem?_cons_succ] at x0 x1 x2 x3 x4 x5 x6 d0 d1 d2 d3 b0 b1 b2 b3 b4 b5 b6 c0 c1 c2 c3
          have fb0 := heap_frozen HZ7.out 0
          have fb1 := heap_frozen HZ7.out 1
          have fb2 := heap_frozen HZ7.out 2
          have fb3 := heap_frozen HZ7.out 3
          have fb4 := heap_frozen HZ7.out 4
          have fb5 := heap_frozen HZ7.out 5
          have fb6 := heap_frozen HZ7.out 6
          have fc0 := heap_frozen HT7.out 0
          have fc1 := heap_frozen HT7.out 1
          have fc2 := heap_frozen HT7.out 2
          have fc3 := heap_frozen HT7.out 3
          obtain ⟨qq1, qq2⟩ := two_heaps (A := w.heap.size + 2) (B := w.heap.size + 3) (by omega) HZ7.out HT7.out (.int .i64 (n : Int)) (.int .i64 (k : Int)) (.int .i64 (wr0 : Int)) (.int .i64 (r : Int)) (.int .u16 (D : Int)) (.int .i64 (mw : Int)) (.slice ao la ca) (.string ⟨#[]⟩) (.int .i64 0) (.int .i64 0) (.int .i64 0)
          have y0 := heap_cell qq1 0
          have y1 := heap_cell qq1 1
          have y2 := heap_cell qq1 2
          have y3 := heap_cell qq1 3
          have y4 := heap_cell qq1 4
          have y5 := heap_cell qq1 5
          have y6 := heap_cell qq1 6
          have z0 := heap_cell qq2 0
          have z1 := heap_cell qq2 1
          have z2 := heap_cell qq2 2
          have z3 := heap_cell qq2 3
          simp only [List.getElem?_toArray, List.getElem?_cons_zero, List.getElem?_cons_succ] at y0 y1 y2 y3 y4 y5 y6 z0 z1 z2 z3
          clear qq1 qq2
          have HBZ := Lib.hid (below_four (below_seven HB7.out (show w.heap.size ≤ w.heap.size + 2 by omega) (.int .i64 (n : Int)) (.int .i64 (k : Int)) (.int .i64 (wr0 : Int)) (.int .i64 (r : Int)) (.int .u16 (D : Int)) (.int .i64 (mw : Int)) (.slice ao la ca)) (show w.heap.size ≤ w.heap.size + 3 by omega) (.string ⟨#[]⟩) (.int .i64 0) (.int .i64 0) (.int .i64 0))
          go_wp2_with fail
          refine bodyPost_ret (v := .tuple #[.agg (shC n k wr0 r D mw (.slice ao la ca)), .agg #[.string ⟨#[]⟩, .int .i64 0, .int .i64 0, .int .i64 0], .int .i64 11]) (by simp [results, Try.results23, go_sem, y0, y1, y2, y3, y4, y5, y6, z0, z1, z2, z3]; try rfl) rfl ?_
          rw [HF.out]
          exact ⟨D, All, ao, ca, by rw [HLA.out, HMW.out]; rfl, HSH.out, HR.out.below HBZ.out, HNO.out, .inl rfl, HBZ.out⟩
        · have t8 : decide ((8 : Int) ≤ (lk : Int)) = false := decide_eq_false (by omega)
          have t8' : decide (8 ≤ lk) = false := decide_eq_false (by omega)
          have HLT2 : Hid (∀ i, i ∈ UM.take (j + 1) → (st.kp i key).length < 8) := Lib.hid (by
            intro q hq
            rw [HTK.out] at hq
            rcases List.mem_append.1 hq with hq | hq
            · exact HLT.out q hq
            · rw [List.mem_singleton.1 hq, hlk]; omega)
          clear g8 hlk
          go_wp2_with fail
          go_roundw
          case rel => exact ⟨j + 1, by go_num, by omega, HB47, HLT2⟩
          case measure => simp [intOf]; omega
      · obtain rfl : M = j := by omega
        rw [HUT.out] at HLT
        have HL0 := HLA
        have HNOL : Hid (ao = none → la = 0 ∧ ca = 0) := Lib.hid (by have h1 := HNO.out; rw [HLA.out] at h1; exact h1)
        have HRl : Hid (Reads wq ao (itCells All)) := Lib.hid (HR4.out.below HB.out)
        have HUUL := HML
        have HRUU := HRM
        have HBQ := HB
        have HPF : Hid (wrF n k wr0 st 2 key (M : Int) text = (UM.foldl (tornS A k text key) st.up1, ⟨ByteArray.empty, A, 0⟩, 0)) := Lib.hid (by
          rw [HF0.out, if_neg]
          intro h
          obtain ⟨i, h1, h2⟩ := List.any_eq_true.1 h
          have h3 := HLT.out i h1
          have h4 := of_decide_eq_true h2
          omega)
        have HSP : Hid (Shl n D (addI key A k text UM All) (UM.foldl (tornS A k text key) st.up1)) := Lib.hid (by
          have h1 := HSH.out.torn HT60.out hk1 hkey HMN.out UM HNDM.out HUMN.out
          rw [HMW.out, HA.out] at h1
          exact h1)
        have HSTW : Hid ((UM.foldl (tornS A k text key) st.up1).wr = A) := Lib.hid (by
          have h1 := (tornS_ok (a := A) (k := k) (key := key) HT60.out hk1 (by have := HA.out; omega) UM st.up1 HNDM.out (HSH.out.ok.up1 HMN.out) (by show A ≤ st.wr + 1; rw [HMW.out, HA.out]; exact Nat.le_refl _) (fun i _ x hx => by
            have h2 := (HSH.out.ok.rng i key x hx).2.1
            have h3 := HMW.out
            have h4 := HA.out
            omega)).2.1
          rw [h1]
          show st.wr + 1 = A
          rw [HMW.out, HA.out])
        have CC := Lib.hid (clone_item All la ao ca wq.heap.size wq (by omega) HL0.out HNOL.out (Lib.hid HRl.out) (Nat.le_refl _))
        unfold RowI at CC
        have HWC4 : Hid (W4.heap.size ≤ wq.heap.size) := Lib.hid HBQ.out.size
        go_wp2_with fail
        (with_reducible refine CC.out.mono ?_)
        rintro e w6 ⟨a6, c6, rfl, ho6, hb6⟩
        have HO6 := Lib.hid ho6
        have HB6 := Lib.hid hb6
        clear ho6 hb6 CC
        go_wp2_with fail
        go_loopw [10, 107] (fun va vj wr => ∃ j : Nat, vj = .int .i64 j ∧ j ≤ M ∧ Hid (wr.ownsRow wq.heap.size 70 5 va (la + j) (itCells (addI key A k text (UM.take j) All))) ∧ Hid (Below wq.heap.size wq wr)) (fun _ vj _ => M - (intOf vj).toNat)
        case atStart => exact ⟨0, rfl, by omega, Lib.hid (by have := HO6.out; unfold addI; simpa using this), HB6⟩
        case round =>
          clear HO6 HB6
          obtain ⟨j, rfl, hj, HO, HB⟩ := hrel
          obtain ⟨wz, rfl⟩ : ∃ wz, wz = wr := ⟨_, rfl⟩
          have HBz : Hid (Below W4.heap.size W4 wz) := Lib.hid (HBQ.out.trans (HB.out.mono HWC4.out))
          obtain ⟨az, cz, rfl, _, _, _⟩ := own_reads HO.out
          by_cases hju : j < M
          · obtain ⟨i, hi⟩ : ∃ i, UM[j]? = some i := ⟨UM[j]'(by rw [HUUL.out]; exact hju), List.getElem?_eq_getElem _⟩
            have hin := HUMN.out i (List.mem_of_getElem? hi)
            obtain ⟨bu, ou, hra, xu⟩ := (HRUU.out.below HBz.out) j _ (placeR_at hi)
            cases hra
            obtain ⟨bp, op, hrp, xp⟩ := (HRP4.out.below HBz.out) i _ (rowF_get _ hin)
            cases hrp
            have dz1 := (HBz.out.cell (p := ⟨w.heap.size + 1, 1, none⟩) (show w.heap.size + 1 < W4.heap.size by have := HS4.out.1; omega)).trans (show W4.cell? ⟨w.heap.size + 1, 1, none⟩ = some (.int .i64 (key : Int)) by rw [heap_cell HD4.out]; rfl)
            have tz0 := (HBz.out.cell (p := ⟨w3.heap.size, 0, none⟩) HS4.out.2).trans (show W4.cell? ⟨w3.heap.size, 0, none⟩ = some (.int .i64 (A : Int)) by rw [heap_cell HAT4.out]; rfl)
            have tz1 := (HBz.out.cell (p := ⟨w3.heap.size, 1, none⟩) HS4.out.2).trans (show W4.cell? ⟨w3.heap.size, 1, none⟩ = some (.int .i64 0) by rw [heap_cell HAT4.out]; rfl)
            have HAS := Lib.hid (addI_snoc key A k text All hi)
            obtain ⟨PC, hPC⟩ : ∃ PC, pcs text k i = PC := ⟨_, rfl⟩
            rw [hPC] at xp HAS
            have hm1 : Hid (la + j + 1 ≤ maxLen) := Lib.hid (by unfold maxLen; omega)
            have hm2 : Hid ((la + j + 1) * 48 ≤ 140737488355328) := Lib.hid (by omega)
            have HBASE : Hid (wq.heap.size ≤ wz.heap.size) := Lib.hid HB.out.size
            have i0 : (0 : Int) ≤ (i : Int) := by omega
            have i1 : (i : Int) < (n : Int) := by omega
            clear hi hPC
            go_wp2_with fail
            go_region_law (first
              | (refine step_app_kp ?_ (.tmp 111) (.tmp 122) 31 ?_ wq.heap.size 70 _ 5 48 Try.underlying31 itemInfo (.slice az (la + j) cz) (la + j) _ ?_ wz HO.out HBASE.out ?_ ?_ #[.int .i64 (i : Int), .int .i64 (key : Int), .int .i64 (A : Int), .int .i64 0, .string PC] ?_ ?_ rfl ?_ hm1.out hm2.out ?_; (focus rfl); (focus rfl); (focus rfl); (focus (repeat (first | (with_reducible exact Below.refl _ _) | (with_reducible apply below_drew1) | (with_reducible apply below_drewN) | (with_reducible refine Below.alloc ?_ (by simp; try omega) _) | fail))); rotate_left; (focus rfl); (focus (repeat (first | (with_reducible exact heap_new' _ _ _ (by simp; try omega)) | (with_reducible apply heap_drew) | (with_reducible apply heap_drewN) | (with_reducible apply heap_alloc_old) | fail))); (focus (intro u hu; simp at hu; rcases hu with rfl | rfl | rfl | rfl | rfl <;> rfl)); intro g9 c9 w9 hown9 hgr9 hat9)
              | fail)
            all_goals
              have HO9 : Hid (w9.ownsRow wq.heap.size 70 5 (.slice (some ⟨g9, 0, none⟩) (la + (j + 1)) c9) (la + (j + 1)) (itCells (addI key A k text (UM.take (j + 1)) All))) := Lib.hid (by rw [HAS.out, itCells_snoc]; exact hown9)
              have HB9 : Hid (Below wq.heap.size wq w9) := Lib.hid (HB.out.trans ((Below.refl _ wz).grown hgr9 HBASE.out fun q hq => (HO.out.lt q hq).1))
              clear hown9 hgr9 hat9
              go_wp2_with fail
              go_roundw
              case rel => exact ⟨j + 1, by go_num, by omega, HO9, HB9⟩
              case measure => simp [intOf]; omega
          · obtain rfl : M = j := by omega
            have HXz : Hid (wz.heap[w.heap.size]? = some (.cells (shC n k wr0 r D mw (.slice ao la ca)) 33 (0, 0))) := Lib.hid ((HBz.out.block w.heap.size (by have := HS4.out.1; omega)).trans HX4.out)
            have x5 := heap_cell HXz.out 5
            have x6 := heap_cell HXz.out 6
            simp only [List.getElem?_toArray, List.getElem?_cons_zero, List.getElem?_cons_succ] at x5 x6
            have fx5 := heap_frozen HXz.out 5
            have fx6 := heap_frozen HXz.out 6
            obtain ⟨ln, hln⟩ : ∃ ln, la + M = ln := ⟨_, rfl⟩
            rw [hln] at HO
            obtain ⟨XW, hXW⟩ : ∃ XW, (wz.setCell ⟨w.heap.size, 5, none⟩ (.int .i64 (A : Int))).setCell ⟨w.heap.size, 6, none⟩ (.slice az ln cz) = XW := ⟨_, rfl⟩
            have HXX : Hid (XW.heap[w.heap.size]? = some (.cells (shC n k wr0 r D A (.slice az ln cz)) 33 (0, 0))) := Lib.hid (by rw [← hXW, heap_set _ (heap_set _ HXz.out)]; rfl)
            have hfar : ∀ g, g ≠ w.heap.size → XW.heap[g]? = wz.heap[g]? := fun g hg => by rw [← hXW, heap_set_far _ (fun e : w.heap.size = g => hg e.symm), heap_set_far _ (fun e : w.heap.size = g => hg e.symm)]
            have HZX : Hid (XW.heap[w.heap.size + 2]? = some (.cells #[.int .i64 0, .int .i64 0, .int .i64 0, .int .i64 0, .int .u16 0, .int .i64 0, .slice none 0 0] 33 (0, 0))) := Lib.hid ((hfar _ (by omega)).trans ((HBz.out.block (w.heap.size + 2) (by have := HS4.out.1; omega)).trans HZ4.out))
            have HTX : Hid (XW.heap[w.heap.size + 3]? = some (.cells #[.string ⟨#[]⟩, .int .i64 0, .int .i64 0, .int .i64 0] 40 (0, 0))) := Lib.hid ((hfar _ (by omega)).trans ((HBz.out.block (w.heap.size + 3) (by have := HS4.out.1; omega)).trans HT4.out))
            have HAX : Hid (XW.heap[w3.heap.size]? = some (.cells #[.int .i64 (A : Int), .int .i64 0] 38 (0, 0))) := Lib.hid ((hfar _ (by omega)).trans ((HBz.out.block w3.heap.size HS4.out.2).trans HAT4.out))
            have HOX : Hid (XW.ownsRow wq.heap.size 70 5 (.slice az ln cz) ln (itCells (addI key A k text (UM.take M) All))) := Lib.hid (by
              rw [← hXW]
              have hne : (Value.slice az ln cz).ownBlock ≠ some w.heap.size := fun e => by have := (HO.out.lt _ e).1; have := HWC4.out; have := HS4.out.1; omega
              exact (HO.out.kept (setCell_grown _ _ _ _) (.inr hne)).kept (setCell_grown _ _ _ _) (.inr hne))
            have HBX : Hid (Below w.heap.size w XW) := Lib.hid (by rw [← hXW]; exact below_set (below_set (HB4.out.trans (HBz.out.mono HB4.out.size)) (Nat.le_refl _) _) (Nat.le_refl _) _)
            have xx0 := heap_cell HXX.out 0
            have xx1 := heap_cell HXX.out 1
            have xx2 := heap_cell HXX.out 2
            have xx3 := heap_cell HXX.out 3
            have xx4 := heap_cell HXX.out 4
            have xx5 := heap_cell HXX.out 5
            have xx6 := heap_cell HXX.out 6
            have at0 := heap_cell HAX.out 0
            have at1 := heap_cell HAX.out 1
            have b0 := heap_cell HZX.out 0
            have b1 := heap_cell HZX.out 1
            have b2 := heap_cell HZX.out 2
            have b3 := heap_cell HZX.out 3
            have b4 := heap_cell HZX.out 4
            have b5 := heap_cell HZX.out 5
            have b6 := heap_cell HZX.out 6
            have c0 := heap_cell HTX.out 0
            have c1 := heap_cell HTX.out 1
            have c2 := heap_cell HTX.out 2
            have c3 := heap_cell HTX.out 3
            simp only [List.getElem?_toArray, List.getElem?_cons_zero, List.getElem?_cons_succ] at xx0 xx1 xx2 xx3 xx4 xx5 xx6 at0 at1 b0 b1 b2 b3 b4 b5 b6 c0 c1 c2 c3
            have fb0 := heap_frozen HZX.out 0
            have fb1 := heap_frozen HZX.out 1
            have fb2 := heap_frozen HZX.out 2
            have fb3 := heap_frozen HZX.out 3
            have fb4 := heap_frozen HZX.out 4
            have fb5 := heap_frozen HZX.out 5
            have fb6 := heap_frozen HZX.out 6
            have fc0 := heap_frozen HTX.out 0
            have fc1 := heap_frozen HTX.out 1
            have fc2 := heap_frozen HTX.out 2
            have fc3 := heap_frozen HTX.out 3
            have HLN := Lib.hid hln
            have hw34 : w.heap.size + 4 ≤ w3.heap.size := by have := HB23.out.size; have := HS2.out; omega
            have HN2 : Hid (w.heap.size ≠ w.heap.size + 1 + 1) := Lib.hid (by omega)
            have HM2 : Hid (w.heap.size ≠ w.heap.size + 1 + 1 + 1) := Lib.hid (by omega)
            have HN3 : Hid (w3.heap.size ≠ w.heap.size + 1 + 1) := Lib.hid (by omega)
            have HM3 : Hid (w3.heap.size ≠ w.heap.size + 1 + 1 + 1) := Lib.hid (by omega)
            clear hw34
            clear hfar
            rw [hln]
            go_wp2_with fail
            clear hXW hln
            go_region_held (fun w' => w'.cell? ⟨w.heap.size, 0, none⟩ = some (.int .i64 (n : Int)) ∧ w'.cell? ⟨w.heap.size, 1, none⟩ = some (.int .i64 (k : Int)) ∧ w'.cell? ⟨w.heap.size, 2, none⟩ = some (.int .i64 (wr0 : Int)) ∧ w'.cell? ⟨w.heap.size, 3, none⟩ = some (.int .i64 (r : Int)) ∧ w'.cell? ⟨w.heap.size, 4, none⟩ = some (.int .u16 (D : Int)) ∧ w'.cell? ⟨w.heap.size, 5, none⟩ = some (.int .i64 (A : Int)) ∧ w'.cell? ⟨w.heap.size, 6, none⟩ = some (.slice az ln cz) ∧ w'.cell? ⟨w3.heap.size, 0, none⟩ = some (.int .i64 (A : Int)) ∧ w'.cell? ⟨w3.heap.size, 1, none⟩ = some (.int .i64 0)) (first | (with_reducible exact ⟨dr_cell (far7 HN2.out xx0), dr_cell (far7 HN2.out xx1), dr_cell (far7 HN2.out xx2), dr_cell (far7 HN2.out xx3), dr_cell (far7 HN2.out xx4), dr_cell (far7 HN2.out xx5), dr_cell (far7 HN2.out xx6), dr_cell (far7 HN3.out at0), dr_cell (far7 HN3.out at1)⟩) | (with_reducible exact ⟨dr_cell (far4 HM2.out xx0), dr_cell (far4 HM2.out xx1), dr_cell (far4 HM2.out xx2), dr_cell (far4 HM2.out xx3), dr_cell (far4 HM2.out xx4), dr_cell (far4 HM2.out xx5), dr_cell (far4 HM2.out xx6), dr_cell (far4 HM3.out at0), dr_cell (far4 HM3.out at1)⟩) | (with_reducible exact ⟨dr_cell (far4 HM2.out (far7 HN2.out xx0)), dr_cell (far4 HM2.out (far7 HN2.out xx1)), dr_cell (far4 HM2.out (far7 HN2.out xx2)), dr_cell (far4 HM2.out (far7 HN2.out xx3)), dr_cell (far4 HM2.out (far7 HN2.out xx4)), dr_cell (far4 HM2.out (far7 HN2.out xx5)), dr_cell (far4 HM2.out (far7 HN2.out xx6)), dr_cell (far4 HM3.out (far7 HN3.out at0)), dr_cell (far4 HM3.out (far7 HN3.out at1))⟩) | (with_reducible exact ⟨dr_cell (far7 HN2.out (far4 HM2.out xx0)), dr_cell (far7 HN2.out (far4 HM2.out xx1)), dr_cell (far7 HN2.out (far4 HM2.out xx2)), dr_cell (far7 HN2.out (far4 HM2.out xx3)), dr_cell (far7 HN2.out (far4 HM2.out xx4)), dr_cell (far7 HN2.out (far4 HM2.out xx5)), dr_cell (far7 HN2.out (far4 HM2.out xx6)), dr_cell (far7 HN3.out (far4 HM3.out at0)), dr_cell (far7 HN3.out (far4 HM3.out at1))⟩) | go_keep) (fail)
            obtain ⟨qq1, qq2⟩ := two_heaps (A := w.heap.size + 2) (B := w.heap.size + 3) (by omega) HZX.out HTX.out (.int .i64 (n : Int)) (.int .i64 (k : Int)) (.int .i64 (wr0 : Int)) (.int .i64 (r : Int)) (.int .u16 (D : Int)) (.int .i64 (A : Int)) (.slice az ln cz) (.string ⟨#[]⟩) (.int .i64 (A : Int)) (.int .i64 0) (.int .i64 0)
            have yy0 := heap_cell qq1 0
            have yy1 := heap_cell qq1 1
            have yy2 := heap_cell qq1 2
            have yy3 := heap_cell qq1 3
            have yy4 := heap_cell qq1 4
            have yy5 := heap_cell qq1 5
            have yy6 := heap_cell qq1 6
            have zz0 := heap_cell qq2 0
            have zz1 := heap_cell qq2 1
            have zz2 := heap_cell qq2 2
            have zz3 := heap_cell qq2 3
            simp only [List.getElem?_toArray, List.getElem?_cons_zero, List.getElem?_cons_succ] at yy0 yy1 yy2 yy3 yy4 yy5 yy6 zz0 zz1 zz2 zz3
            clear qq1 qq2
            obtain ⟨qq1, qq2⟩ := two_heaps2 (A := w.heap.size + 2) (B := w.heap.size + 3) (by omega) HZX.out HTX.out (.int .i64 (n : Int)) (.int .i64 (k : Int)) (.int .i64 (wr0 : Int)) (.int .i64 (r : Int)) (.int .u16 (D : Int)) (.int .i64 (A : Int)) (.slice az ln cz) (.string ⟨#[]⟩) (.int .i64 (A : Int)) (.int .i64 0) (.int .i64 0)
            have vv0 := heap_cell qq1 0
            have vv1 := heap_cell qq1 1
            have vv2 := heap_cell qq1 2
            have vv3 := heap_cell qq1 3
            have vv4 := heap_cell qq1 4
            have vv5 := heap_cell qq1 5
            have vv6 := heap_cell qq1 6
            have uu0 := heap_cell qq2 0
            have uu1 := heap_cell qq2 1
            have uu2 := heap_cell qq2 2
            have uu3 := heap_cell qq2 3
            simp only [List.getElem?_toArray, List.getElem?_cons_zero, List.getElem?_cons_succ] at vv0 vv1 vv2 vv3 vv4 vv5 vv6 uu0 uu1 uu2 uu3
            clear qq1 qq2
            have HF1 := Lib.hid (below_drew1 (below_four (below_seven HBX.out (show w.heap.size ≤ w.heap.size + 2 by omega) (.int .i64 (n : Int)) (.int .i64 (k : Int)) (.int .i64 (wr0 : Int)) (.int .i64 (r : Int)) (.int .u16 (D : Int)) (.int .i64 (A : Int)) (.slice az ln cz)) (show w.heap.size ≤ w.heap.size + 3 by omega) (.string ⟨#[]⟩) (.int .i64 (A : Int)) (.int .i64 0) (.int .i64 0)))
            have HF2 := Lib.hid (below_drew1 (below_seven (below_four HBX.out (show w.heap.size ≤ w.heap.size + 3 by omega) (.string ⟨#[]⟩) (.int .i64 (A : Int)) (.int .i64 0) (.int .i64 0)) (show w.heap.size ≤ w.heap.size + 2 by omega) (.int .i64 (n : Int)) (.int .i64 (k : Int)) (.int .i64 (wr0 : Int)) (.int .i64 (r : Int)) (.int .u16 (D : Int)) (.int .i64 (A : Int)) (.slice az ln cz)))
            have HG1 := Lib.hid (rd_fin (own_four (own_seven HOX.out (A := w.heap.size + 2) (by have := HWC4.out; have := HS4.out.1; omega) (.int .i64 (n : Int)) (.int .i64 (k : Int)) (.int .i64 (wr0 : Int)) (.int .i64 (r : Int)) (.int .u16 (D : Int)) (.int .i64 (A : Int)) (.slice az ln cz)) (B := w.heap.size + 3) (by have := HWC4.out; have := HS4.out.1; omega) (.string ⟨#[]⟩) (.int .i64 (A : Int)) (.int .i64 0) (.int .i64 0)))
            have HG2 := Lib.hid (rd_fin (own_seven (own_four HOX.out (B := w.heap.size + 3) (by have := HWC4.out; have := HS4.out.1; omega) (.string ⟨#[]⟩) (.int .i64 (A : Int)) (.int .i64 0) (.int .i64 0)) (A := w.heap.size + 2) (by have := HWC4.out; have := HS4.out.1; omega) (.int .i64 (n : Int)) (.int .i64 (k : Int)) (.int .i64 (wr0 : Int)) (.int .i64 (r : Int)) (.int .u16 (D : Int)) (.int .i64 (A : Int)) (.slice az ln cz)))
            have HLF : Hid ((addI key A k text UM All).length = ln) := Lib.hid (by rw [addI_len, HL0.out, HUUL.out, HLN.out])
            all_goals
              go_wp2_with fail
              first
                | (refine bodyPost_ret (v := .tuple #[.agg (shC n k wr0 r D A (.slice az ln cz)), .agg #[.string ⟨#[]⟩, .int .i64 (A : Int), .int .i64 0, .int .i64 0], .int .i64 0]) (by simp [results, Try.results23, go_sem, yy0, yy1, yy2, yy3, yy4, yy5, yy6, zz0, zz1, zz2, zz3]; done) rfl ?_; have HFF := HF1; have HGG := HG1)
                | (refine bodyPost_ret (v := .tuple #[.agg (shC n k wr0 r D A (.slice az ln cz)), .agg #[.string ⟨#[]⟩, .int .i64 (A : Int), .int .i64 0, .int .i64 0], .int .i64 0]) (by simp [results, Try.results23, go_sem, vv0, vv1, vv2, vv3, vv4, vv5, vv6, uu0, uu1, uu2, uu3]; done) rfl ?_; have HFF := HF2; have HGG := HG2)
                | fail
              rw [HUT.out] at HGG
              rw [HPF.out]
              refine ⟨D, addI key A k text UM All, az, cz, ?_, HSP.out, HGG.out.1, fun h0 => ?_, .inr fun a ha => ?_, HFF.out⟩
              · show Ending.returned _ = Ending.returned (.tuple #[.agg (shC n k wr0 r D (UM.foldl (tornS A k text key) st.up1).wr (.slice az (addI key A k text UM All).length cz)), _, _])
                rw [HLF.out, HSTW.out]
                rfl
              · have := HGG.out.2.1 h0
                rw [HLF.out]
                exact this
              · have h1 := HGG.out.2.2 a ha
                have h2 := HWC4.out
                have h3 := HS4.out.1
                exact ⟨by omega, (show ∀ (v : World) (q : Nat), q < v.heap.size → q < v.drew.heap.size from fun _ _ h => h) _ _ h1.2⟩
end Go.Proofs.Ytioecklnijhjgaa
