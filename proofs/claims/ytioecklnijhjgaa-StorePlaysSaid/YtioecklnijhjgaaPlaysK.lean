/- StorePlays: the walk. (Printed by wip/tools/gen_plays.py.) -/
import Derived.Test.YtioecklnijhjgaaPlM46
import Derived.Test.YtioecklnijhjgaaPlM48
import Derived.Test.YtioecklnijhjgaaPlM19
import Derived.Test.YtioecklnijhjgaaEqualK
set_option linter.unusedVariables false
set_option linter.unusedSimpArgs false
namespace Go.Proofs.Ytioecklnijhjgaa
open Go.RowKit

theorem ref_ShelfOf (n k wr0 r : Nat) (w : World) :
    Calls Try.prog 7 #[qV n k wr0 r] w fun e w' => e = .returned (.agg (shC n k wr0 r 0 0 (.slice none 0 0))) ∧ Below w.heap.size w w' := by
  have hb := Lib.hid ((below_alloc w (.cells #[.int .i64 (n : Int), .int .i64 k, .int .i64 wr0, .int .i64 r] 23)).alloc (by simp) (.cells #[.int .i64 (n : Int), .int .i64 (k : Int), .int .i64 (wr0 : Int), .int .i64 (r : Int), .int .u16 0, .int .i64 0, .slice none 0 0] 33))
  have HQ := Lib.hid (heap_alloc_old (w.alloc (.cells #[.int .i64 (n : Int), .int .i64 (k : Int), .int .i64 (wr0 : Int), .int .i64 (r : Int)] 23)) (.cells #[.int .i64 0, .int .i64 0, .int .i64 0, .int .i64 0, .int .u16 0, .int .i64 0, .slice none 0 0] 33) (heap_alloc_new w _))
  have HH := Lib.hid (heap_new' (w.alloc (.cells #[.int .i64 (n : Int), .int .i64 (k : Int), .int .i64 (wr0 : Int), .int .i64 (r : Int)] 23)) (.cells #[.int .i64 (n : Int), .int .i64 (k : Int), .int .i64 (wr0 : Int), .int .i64 (r : Int), .int .u16 0, .int .i64 0, .slice none 0 0] 33) (w.heap.size + 1) (by simp))
  have x0 := heap_cell HQ.out 0
  have x1 := heap_cell HQ.out 1
  have x2 := heap_cell HQ.out 2
  have x3 := heap_cell HQ.out 3
  simp only [List.getElem?_toArray, List.getElem?_cons_zero, List.getElem?_cons_succ] at x0 x1 x2 x3
  have y0 := heap_cell HH.out 0
  have y1 := heap_cell HH.out 1
  have y2 := heap_cell HH.out 2
  have y3 := heap_cell HH.out 3
  have y4 := heap_cell HH.out 4
  have y5 := heap_cell HH.out 5
  have y6 := heap_cell HH.out 6
  simp only [List.getElem?_toArray, List.getElem?_cons_zero, List.getElem?_cons_succ] at y0 y1 y2 y3 y4 y5 y6
  go_enter Try.func7, Try.ntmps7
  go_wp2_with fail
  refine bodyPost_ret (v := .agg (shC n k wr0 r 0 0 (.slice none 0 0))) (by simp [results, Try.results7, go_sem, y0, y1, y2, y3, y4, y5, y6]; try rfl) rfl ?_
  exact ⟨rfl, hb.out⟩
set_option maxRecDepth 100000 in
set_option maxHeartbeats 8000000 in
theorem plays_bad (a b c d : Int) (ao : Option Addr) (len cap : Nat) (w : World) (hq : qErr a b c d ≠ 0) :
    Calls Try.prog 3 #[qV a b c d, .slice ao len cap] w fun e w' => e = .returned (.bool true) ∧ Below w.heap.size w w' := by
  have hb1 := below_alloc w (.cells #[.int .i64 a, .int .i64 b, .int .i64 c, .int .i64 d] 23)
  have hh1 := heap_alloc_new w (.cells #[.int .i64 a, .int .i64 b, .int .i64 c, .int .i64 d] 23)
  obtain ⟨W1, hW1⟩ : ∃ W1, w.alloc (.cells #[.int .i64 a, .int .i64 b, .int .i64 c, .int .i64 d] 23) = W1 := ⟨_, rfl⟩
  rw [hW1] at hb1 hh1
  have hlt : w.heap.size < W1.heap.size := by rw [← hW1]; simp
  have CN := Lib.hid (store_New_bad a b c d W1 hq)
  have CQ := Lib.hid (fun W => ref_QuorumErr a b c d W)
  unfold NewBad at CN
  obtain ⟨E, hE⟩ : ∃ E, qErr a b c d = E := ⟨_, rfl⟩
  rw [hE] at CN CQ hq
  have t0 : (E != 0) = true := by simp; exact hq
  have t0' : (E == 0) = false := by simp; exact hq
  have HB1 := Lib.hid hb1
  have HH1 := Lib.hid hh1
  have x0 := heap_cell HH1.out 0
  have x1 := heap_cell HH1.out 1
  have x2 := heap_cell HH1.out 2
  have x3 := heap_cell HH1.out 3
  simp only [List.getElem?_toArray, List.getElem?_cons_zero, List.getElem?_cons_succ] at x0 x1 x2 x3
  clear hE hq hb1 hh1
  go_enter Try.func3, Try.ntmps3
  go_wp2_with fail
  (with_reducible refine CN.out.mono ?_)
  clear hW1 x0 x1 x2 x3
  rintro e w1 ⟨rfl, hb2⟩
  have HH2 := Lib.hid ((hb2.block w.heap.size hlt).trans HH1.out)
  have HB2 : Hid (Below w.heap.size w w1) := Lib.hid (HB1.out.trans (hb2.mono (Nat.le_of_lt hlt)))
  have x0 := heap_cell HH2.out 0
  have x1 := heap_cell HH2.out 1
  have x2 := heap_cell HH2.out 2
  have x3 := heap_cell HH2.out 3
  simp only [List.getElem?_toArray, List.getElem?_cons_zero, List.getElem?_cons_succ] at x0 x1 x2 x3
  clear hb2 CN
  go_wp2_with fail
  (with_reducible refine (CQ.out _).mono ?_)
  rintro e w2 ⟨rfl, hb3⟩
  have HB3 : Hid (Below w.heap.size w w2) := Lib.hid (HB2.out.trans (hb3.mono HB2.out.size))
  clear hb3 CQ x0 x1 x2 x3
  go_wp2_with fail
  go_ret
  exact ⟨rfl, HB3.out⟩
set_option maxRecDepth 100000 in
set_option maxHeartbeats 16000000 in
theorem plays_good (n k wr0 r : Nat) (ao : Option Addr) (len cap : Nat) (ds : List Dd) (w : World) (hq : qErr n k wr0 r = 0) (hI : DdIn w ao len ds) :
    Calls Try.prog 3 #[qV n k wr0 r, .slice ao len cap] w fun e w' => e = .returned (.bool true) ∧ Below w.heap.size w w' := by
  obtain ⟨hlen, hl63, hRd, htx⟩ := hI
  have hqo := q_ok hq
  have hk1 : 1 ≤ k := by omega
  have hkn : k ≤ n := by omega
  have hn : n ≤ 10 := by omega
  clear hqo
  have hb1 := below_alloc w (.cells #[.int .i64 (n : Int), .int .i64 (k : Int), .int .i64 (wr0 : Int), .int .i64 (r : Int)] 23)
  have hh1 := heap_alloc_new w (.cells #[.int .i64 (n : Int), .int .i64 (k : Int), .int .i64 (wr0 : Int), .int .i64 (r : Int)] 23)
  obtain ⟨W1, hW1⟩ : ∃ W1, w.alloc (.cells #[.int .i64 (n : Int), .int .i64 (k : Int), .int .i64 (wr0 : Int), .int .i64 (r : Int)] 23) = W1 := ⟨_, rfl⟩
  rw [hW1] at hb1 hh1
  obtain ⟨bs, hbs⟩ : ∃ bs, W1.heap.size = bs := ⟨_, rfl⟩
  have hlt : w.heap.size < bs := by rw [← hbs, ← hW1]; simp
  have CN := Lib.hid (store_New n k wr0 r bs (fun _ => False) W1 hq hn (by rw [hbs]; exact Nat.le_refl _) (fun g hg => hg.elim))
  unfold NewSt at CN
  have CQ := Lib.hid (fun W => ref_QuorumErr n k wr0 r W)
  rw [hq] at CQ
  have CSh := Lib.hid (fun W => ref_ShelfOf n k wr0 r W)
  have HBS := Lib.hid hbs
  have HB1 := Lib.hid hb1
  have HH1 := Lib.hid hh1
  have HLEN := Lib.hid hlen
  have HTX := Lib.hid htx
  have HRd1 : Hid (Reads W1 ao (ddCells ds)) := Lib.hid (hRd.below hb1)
  have x0 := heap_cell HH1.out 0
  have x1 := heap_cell HH1.out 1
  have x2 := heap_cell HH1.out 2
  have x3 := heap_cell HH1.out 3
  simp only [List.getElem?_toArray, List.getElem?_cons_zero, List.getElem?_cons_succ] at x0 x1 x2 x3
  clear hq hb1 hh1 hlen htx hRd hbs
  go_enter Try.func3, Try.ntmps3
  go_wp2_with fail
  (with_reducible refine CN.out.mono ?_)
  clear hW1 x0 x1 x2 x3
  rintro e w1 ⟨b, nb, V, rfl, hS1, hb2⟩
  rw [HBS.out] at hb2
  have HB2 := Lib.hid hb2
  have HH2 := Lib.hid ((hb2.block w.heap.size hlt).trans HH1.out)
  have HS1 := Lib.hid hS1
  have x0 := heap_cell HH2.out 0
  have x1 := heap_cell HH2.out 1
  have x2 := heap_cell HH2.out 2
  have x3 := heap_cell HH2.out 3
  simp only [List.getElem?_toArray, List.getElem?_cons_zero, List.getElem?_cons_succ] at x0 x1 x2 x3
  clear hb2 CN hS1
  go_wp2_with fail
  (with_reducible refine (CQ.out _).mono ?_)
  rintro e w2 ⟨rfl, hb3⟩
  have HB3 : Hid (Below bs W1 w2) := Lib.hid (HB2.out.trans (hb3.mono (by rw [← HBS.out]; exact (HBS.out ▸ HB2.out : Below W1.heap.size W1 w1).size)))
  have HS2 := Lib.hid (HS1.out.below hb3)
  have HH3 := Lib.hid ((HB3.out.block w.heap.size hlt).trans HH1.out)
  clear hb3 CQ x0 x1 x2 x3
  have x0 := heap_cell HH3.out 0
  have x1 := heap_cell HH3.out 1
  have x2 := heap_cell HH3.out 2
  have x3 := heap_cell HH3.out 3
  simp only [List.getElem?_toArray, List.getElem?_cons_zero, List.getElem?_cons_succ] at x0 x1 x2 x3
  go_wp2_with fail
  (with_reducible refine (CSh.out _).mono ?_)
  rintro e w3 ⟨rfl, hb4⟩
  have hs2 : bs ≤ w2.heap.size := by rw [← HBS.out]; exact HB3.out.size
  have HB4 : Hid (Below bs W1 w3) := Lib.hid (HB3.out.trans (hb4.mono hs2))
  have hs3 : bs ≤ w3.heap.size := by rw [← HBS.out]; exact HB4.out.size
  have hS3 := HS2.out.below hb4
  obtain ⟨W4, hW4⟩ : ∃ W4, w3.alloc (.cells #[.int .i64 (n : Int), .int .i64 (k : Int), .int .i64 (wr0 : Int), .int .i64 (r : Int), .int .u16 0, .int .i64 0, .slice none 0 0] 33) = W4 := ⟨_, rfl⟩
  have hb5 : Below w3.heap.size w3 W4 := by rw [← hW4]; exact below_alloc _ _
  have hS4 := hS3.wide hb5
  obtain ⟨B8, hB8⟩ : ∃ B8, w3.heap.size = B8 := ⟨_, rfl⟩
  have hA8 : WideA (fun _ => False) w3.heap.size W4.heap.size B8 := .inr ⟨by omega, by rw [← hW4, ← hB8]; simp⟩
  obtain ⟨Av0, hAv0⟩ : ∃ Av0, WideA (fun _ => False) w3.heap.size W4.heap.size = Av0 := ⟨_, rfl⟩
  rw [hAv0] at hS4 hA8
  have HS4 := Lib.hid hS4
  have HA8 := Lib.hid hA8
  have HB5 : Hid (Below bs W1 W4) := Lib.hid (HB4.out.trans (hb5.mono hs3))
  have HH8 : Hid (W4.heap[B8]? = some (.cells (shC n k wr0 r 0 St0.wr (.slice none 0 0)) 33 (0, 0))) := Lib.hid (by rw [← hW4, ← hB8]; exact heap_alloc_new _ _)
  have hB8s : bs ≤ B8 := by rw [← hB8]; exact hs3
  have HW4 := Lib.hid hW4
  clear hb4 hS3 hb5 hS4 hA8 hAv0 hs2 hs3 CSh x0 x1 x2 x3 hW4
  go_wp2_with fail
  clear hB8
  rw [HW4.out]
  go_loopw [47] (fun vj wr => ∃ (j D la ca : Nat) (al : Option Addr) (st : St) (All : List It) (V : Nat → Nat → Value) (Av : Nat → Prop), vj = .int .i64 j ∧ j ≤ len ∧ Hid (Shf wr bs Av n k wr0 r b nb V st) ∧ Hid (Shl n D All st) ∧ Hid (All.length = la) ∧ Hid (Reads wr al (itCells All)) ∧ Hid (al = none → la = 0 ∧ ca = 0) ∧ Hid (∀ a, al = some a → Av a.block ∧ a.block ≠ B8) ∧ Hid (Av B8) ∧ Hid (wr.heap[B8]? = some (.cells (shC n k wr0 r D st.wr (.slice al la ca)) 33 (0, 0))) ∧ Hid (Below bs W1 wr)) (fun vj _ => len - (intOf vj).toNat)
  case atStart => exact ⟨0, 0, 0, 0, none, St0, [], V, Av0, rfl, by omega, HS4, Lib.hid (Shl0 n), Lib.hid rfl, Lib.hid (by intro q v hv; simp [itCells] at hv), Lib.hid (fun _ => ⟨rfl, rfl⟩), Lib.hid (fun a ha => by cases ha), HA8, HH8, HB5⟩
  case round =>
    clear HS4 HA8 HH8 HB5 HB4 HB3 HB2 HS2 HS1 HH2 HH3 Av0 V
    obtain ⟨j, D, la, ca, al, st, All, V, Av, rfl, hj, HS, HSL, HLA, HRl, HNO, HAV, HA8, HH8, HBl⟩ := hrel
    obtain ⟨wq, rfl⟩ : ∃ wq, wq = wr := ⟨_, rfl⟩
    obtain ⟨mw, hmw⟩ : ∃ mw, st.wr = mw := ⟨_, rfl⟩
    rw [hmw] at HH8
    have HMW := Lib.hid hmw
    clear hmw
    have HBW : Hid (Below W1.heap.size W1 wq) := Lib.hid (by rw [HBS.out]; exact HBl.out)
    have hsq : bs ≤ wq.heap.size := by rw [← HBS.out]; exact HBW.out.size
    by_cases hjl : j < len
    · obtain ⟨x, hx⟩ : ∃ x, ds[j]? = some x := ⟨ds[j]'(by rw [HLEN.out]; exact hjl), List.getElem?_eq_getElem _⟩
      obtain ⟨bd, od, hrd, z0, z1, z2, z3⟩ := dd_cells (HRd1.out.below HBW.out) hx
      cases hrd
      have htx := HTX.out x (List.mem_of_getElem? hx)
      obtain ⟨kind, key, m, text⟩ := x
      obtain ⟨W5, hW5⟩ : ∃ W5, wq.alloc (.cells #[.int .i64 kind, .int .i64 key, .int .i64 m, .string text] 36) = W5 := ⟨_, rfl⟩
      have hb5 : Below wq.heap.size wq W5 := by rw [← hW5]; exact below_alloc _ _
      have hS5 := HS.out.wide hb5
      obtain ⟨B10, hB10⟩ : ∃ B10, wq.heap.size = B10 := ⟨_, rfl⟩
      have hA10 : WideA Av wq.heap.size W5.heap.size B10 := .inr ⟨by omega, by rw [← hW5, ← hB10]; simp⟩
      have hsub : ∀ x, Av x → WideA Av wq.heap.size W5.heap.size x := fun x h => .inl h
      obtain ⟨Av5, hAv5⟩ : ∃ Av5, WideA Av wq.heap.size W5.heap.size = Av5 := ⟨_, rfl⟩
      rw [hAv5] at hS5 hA10 hsub
      have HH10 : Hid (W5.heap[B10]? = some (.cells #[.int .i64 kind, .int .i64 key, .int .i64 m, .string text] 36 (0, 0))) := Lib.hid (by rw [← hW5, ← hB10]; exact heap_alloc_new _ _)
      have HH85 : Hid (W5.heap[B8]? = some (.cells (shC n k wr0 r D mw (.slice al la ca)) 33 (0, 0))) := Lib.hid (by rw [← hW5]; exact heap_alloc_old _ _ HH8.out)
      have HR5 : Hid (Reads W5 al (itCells All)) := Lib.hid (HRl.out.below hb5)
      have HB5 : Hid (Below bs W1 W5) := Lib.hid (HBl.out.trans (hb5.mono hsq))
      have CD := Lib.hid (store_Do kind key m text htx hk1 hkn hn hS5)
      unfold DoPost at CD
      have CR0 := Lib.hid (fun W (hR : Reads W al (itCells All)) => ref_DoOf (wr0 := wr0) (r := r) kind key m text htx hk1 hkn hn HSL.out al ca W hR (by rw [HLA.out]; exact HNO.out))
      rw [HLA.out, HMW.out] at CR0
      obtain ⟨R, hRR⟩ : ∃ R, doF n k wr0 r st kind key m text = R := ⟨_, rfl⟩
      rw [hRR] at CD CR0
      unfold RefPost at CR0
      obtain ⟨st', ⟨tx, at', mn⟩, E⟩ := R
      have HA5 := Lib.hid hA10
      have HSUB := Lib.hid hsub
      have d0 := heap_cell HH10.out 0
      have d1 := heap_cell HH10.out 1
      have d2 := heap_cell HH10.out 2
      have d3 := heap_cell HH10.out 3
      simp only [List.getElem?_toArray, List.getElem?_cons_zero, List.getElem?_cons_succ] at d0 d1 d2 d3
      clear hx hRR hb5 hS5 hA10 hsub hAv5
      go_wp2_with fail
      (with_reducible refine CD.out.mono ?_)
      clear hW5 hB10 d0 d1 d2 d3 z0 z1 z2 z3
      rintro e w6 ⟨rfl, ⟨V6, hS6⟩, hK6⟩
      have HS6 := Lib.hid hS6
      have HB6 : Hid (Below bs W1 w6) := Lib.hid (HB5.out.trans hK6.bel)
      have HR6 : Hid (Reads w6 al (itCells All)) := Lib.hid (rd_kept hK6 (fun a ha => HSUB.out _ (HAV.out a ha).1) HR5.out)
      have HH86 : Hid (w6.heap[B8]? = some (.cells (shC n k wr0 r D mw (.slice al la ca)) 33 (0, 0))) := Lib.hid ((hK6.blk B8 (HSUB.out _ HA8.out)).trans HH85.out)
      have HH106 := Lib.hid ((hK6.blk B10 HA5.out).trans HH10.out)
      obtain ⟨W7, hW7⟩ : ∃ W7, w6.alloc (.cells #[.string tx, .int .i64 (at' : Int), .int .i64 0, .int .i64 (mn : Int)] 40) = W7 := ⟨_, rfl⟩
      have hb7 : Below w6.heap.size w6 W7 := by rw [← hW7]; exact below_alloc _ _
      obtain ⟨B11, hB11⟩ : ∃ B11, w6.heap.size = B11 := ⟨_, rfl⟩
      have HH117 : Hid (W7.heap[B11]? = some (.cells #[.string tx, .int .i64 (at' : Int), .int .i64 0, .int .i64 (mn : Int)] 40 (0, 0))) := Lib.hid (by rw [← hW7, ← hB11]; exact heap_alloc_new _ _)
      have HH87 : Hid (W7.heap[B8]? = some (.cells (shC n k wr0 r D mw (.slice al la ca)) 33 (0, 0))) := Lib.hid (by rw [← hW7]; exact heap_alloc_old _ _ HH86.out)
      have HH107 : Hid (W7.heap[B10]? = some (.cells #[.int .i64 kind, .int .i64 key, .int .i64 m, .string text] 36 (0, 0))) := Lib.hid (by rw [← hW7]; exact heap_alloc_old _ _ HH106.out)
      have CR := Lib.hid (CR0.out W7 (HR6.out.below hb7))
      have HB67 := Lib.hid hb7
      have hs7 : B11 < W7.heap.size := by rw [← hW7, ← hB11]; simp
      have hb8lt : B8 < B11 := by rw [← hB11]; exact (Array.getElem?_eq_some_iff.1 HH86.out).1
      have x0 := heap_cell HH87.out 0
      have x1 := heap_cell HH87.out 1
      have x2 := heap_cell HH87.out 2
      have x3 := heap_cell HH87.out 3
      have x4 := heap_cell HH87.out 4
      have x5 := heap_cell HH87.out 5
      have x6 := heap_cell HH87.out 6
      simp only [List.getElem?_toArray, List.getElem?_cons_zero, List.getElem?_cons_succ] at x0 x1 x2 x3 x4 x5 x6
      have d0 := heap_cell HH107.out 0
      have d1 := heap_cell HH107.out 1
      have d2 := heap_cell HH107.out 2
      have d3 := heap_cell HH107.out 3
      simp only [List.getElem?_toArray, List.getElem?_cons_zero, List.getElem?_cons_succ] at d0 d1 d2 d3
      have HB11 := Lib.hid hB11
      clear hS6 hK6 hb7 CD CR0
      go_wp2_with fail
      (with_reducible refine CR.out.mono ?_)
      clear hW7 hB11 x0 x1 x2 x3 x4 x5 x6 d0 d1 d2 d3
      rintro e w8 ⟨D', All', al', cap', rfl, hsh, hrd8, hno8, hbl8, hb8⟩
      obtain ⟨la', hla'⟩ : ∃ la', All'.length = la' := ⟨_, rfl⟩
      obtain ⟨mw', hmw'⟩ : ∃ mw', st'.wr = mw' := ⟨_, rfl⟩
      have HSH' := Lib.hid hsh
      have HLA' := Lib.hid hla'
      have HMW' := Lib.hid hmw'
      have HNO' : Hid (al' = none → la' = 0 ∧ cap' = 0) := Lib.hid (by rw [← hla']; exact hno8)
      simp only [hla', hmw']
      obtain ⟨W9, hW9⟩ : ∃ W9, (w8.alloc (.cells (shC n k wr0 r D' mw' (.slice al' la' cap')) 33)).alloc (.cells #[.string tx, .int .i64 (at' : Int), .int .i64 0, .int .i64 (mn : Int)] 40) = W9 := ⟨_, rfl⟩
      have hb9 : Below w8.heap.size w8 W9 := by rw [← hW9]; exact (below_alloc _ _).alloc (by simp) _
      obtain ⟨B13, hB13⟩ : ∃ B13, w8.heap.size = B13 := ⟨_, rfl⟩
      have HH13 : Hid (W9.heap[B13]? = some (.cells (shC n k wr0 r D' mw' (.slice al' la' cap')) 33 (0, 0))) := Lib.hid (by rw [← hW9, ← hB13]; exact heap_alloc_old _ _ (heap_alloc_new _ _))
      have HH14 : Hid (W9.heap[B13 + 1]? = some (.cells #[.string tx, .int .i64 (at' : Int), .int .i64 0, .int .i64 (mn : Int)] 40 (0, 0))) := Lib.hid (by rw [← hW9, ← hB13]; exact heap_new' _ _ _ (by simp))
      have hb79 : Below W7.heap.size W7 W9 := hb8.trans (hb9.mono hb8.size)
      have HH89 : Hid (W9.heap[B8]? = some (.cells (shC n k wr0 r D mw (.slice al la ca)) 33 (0, 0))) := Lib.hid ((hb79.block B8 (by omega)).trans HH87.out)
      have HH119 : Hid (W9.heap[B11]? = some (.cells #[.string tx, .int .i64 (at' : Int), .int .i64 0, .int .i64 (mn : Int)] 40 (0, 0))) := Lib.hid ((hb79.block B11 hs7).trans HH117.out)
      have h78 : W7.heap.size ≤ w8.heap.size := hb8.size
      have h89 : w8.heap.size ≤ W9.heap.size := hb9.size
      have hs69 : w6.heap.size ≤ W7.heap.size := HB67.out.size
      have hs13 : B8 ≠ B13 ∧ B8 ≠ B13 + 1 ∧ B8 ≠ B11 := by omega
      have hb69 : Below w6.heap.size w6 W9 := HB67.out.trans (hb79.mono hs69)
      have hS9 := HS6.out.wide hb69
      have hA8' : WideA Av5 w6.heap.size W9.heap.size B8 := .inl (HSUB.out _ HA8.out)
      have hAV' : ∀ a, al' = some a → WideA Av5 w6.heap.size W9.heap.size a.block ∧ a.block ≠ B8 := by
        intro a ha
        rcases hbl8 with h1 | h1
        · rw [h1] at ha
          exact ⟨.inl (HSUB.out _ (HAV.out a ha).1), (HAV.out a ha).2⟩
        · have h2 := h1 a ha
          exact ⟨.inr ⟨by omega, by omega⟩, by omega⟩
      obtain ⟨Av9, hAv9⟩ : ∃ Av9, WideA Av5 w6.heap.size W9.heap.size = Av9 := ⟨_, rfl⟩
      rw [hAv9] at hS9 hA8' hAV'
      have HA8' := Lib.hid hA8'
      have HAV' := Lib.hid hAV'
      have HB9 : Hid (Below bs W1 W9) := Lib.hid (HB6.out.trans (hb69.mono (by rw [HB11.out]; omega)))
      have HR9 := Lib.hid (hrd8.below hb9)
      have hS10 := hS9.aside7 hA8' (.int .i64 (n : Int)) (.int .i64 (k : Int)) (.int .i64 (wr0 : Int)) (.int .i64 (r : Int)) (.int .u16 (D' : Int)) (.int .i64 (mw' : Int)) (.slice al' la' cap')
      have hR10 := rd7 HR9.out (fun a ha => (hAV' a ha).2) (.int .i64 (n : Int)) (.int .i64 (k : Int)) (.int .i64 (wr0 : Int)) (.int .i64 (r : Int)) (.int .u16 (D' : Int)) (.int .i64 (mw' : Int)) (.slice al' la' cap')
      have hH10 := heap7 HH89.out (.int .i64 (n : Int)) (.int .i64 (k : Int)) (.int .i64 (wr0 : Int)) (.int .i64 (r : Int)) (.int .u16 (D' : Int)) (.int .i64 (mw' : Int)) (.slice al' la' cap')
      have hB10' := below_seven HB9.out hB8s (.int .i64 (n : Int)) (.int .i64 (k : Int)) (.int .i64 (wr0 : Int)) (.int .i64 (r : Int)) (.int .u16 (D' : Int)) (.int .i64 (mw' : Int)) (.slice al' la' cap')
      have h1110 : (((((((((W9.setCell ⟨B8, 0, none⟩ (.int .i64 (n : Int))).setCell ⟨B8, 1, none⟩ (.int .i64 (k : Int))).setCell ⟨B8, 2, none⟩ (.int .i64 (wr0 : Int))).setCell ⟨B8, 3, none⟩ (.int .i64 (r : Int))).setCell ⟨B8, 4, none⟩ (.int .u16 (D' : Int))).setCell ⟨B8, 5, none⟩ (.int .i64 (mw' : Int))).setCell ⟨B8, 6, none⟩ (.slice al' la' cap')) : World)).heap[B11]? = some (.cells #[.string tx, .int .i64 (at' : Int), .int .i64 0, .int .i64 (mn : Int)] 40 (0, 0)) := by rw [heap_set_far _ hs13.2.2, heap_set_far _ hs13.2.2, heap_set_far _ hs13.2.2, heap_set_far _ hs13.2.2, heap_set_far _ hs13.2.2, heap_set_far _ hs13.2.2, heap_set_far _ hs13.2.2]; exact HH119.out
      have h1410 : (((((((((W9.setCell ⟨B8, 0, none⟩ (.int .i64 (n : Int))).setCell ⟨B8, 1, none⟩ (.int .i64 (k : Int))).setCell ⟨B8, 2, none⟩ (.int .i64 (wr0 : Int))).setCell ⟨B8, 3, none⟩ (.int .i64 (r : Int))).setCell ⟨B8, 4, none⟩ (.int .u16 (D' : Int))).setCell ⟨B8, 5, none⟩ (.int .i64 (mw' : Int))).setCell ⟨B8, 6, none⟩ (.slice al' la' cap')) : World)).heap[B13 + 1]? = some (.cells #[.string tx, .int .i64 (at' : Int), .int .i64 0, .int .i64 (mn : Int)] 40 (0, 0)) := by rw [heap_set_far _ hs13.2.1, heap_set_far _ hs13.2.1, heap_set_far _ hs13.2.1, heap_set_far _ hs13.2.1, heap_set_far _ hs13.2.1, heap_set_far _ hs13.2.1, heap_set_far _ hs13.2.1]; exact HH14.out
      have fr0 := heap_frozen HH89.out 0
      have fr1 := heap_frozen HH89.out 1
      have fr2 := heap_frozen HH89.out 2
      have fr3 := heap_frozen HH89.out 3
      have fr4 := heap_frozen HH89.out 4
      have fr5 := heap_frozen HH89.out 5
      have fr6 := heap_frozen HH89.out 6
      have x0 := heap_cell HH89.out 0
      have x1 := heap_cell HH89.out 1
      have x2 := heap_cell HH89.out 2
      have x3 := heap_cell HH89.out 3
      have x4 := heap_cell HH89.out 4
      have x5 := heap_cell HH89.out 5
      have x6 := heap_cell HH89.out 6
      simp only [List.getElem?_toArray, List.getElem?_cons_zero, List.getElem?_cons_succ] at x0 x1 x2 x3 x4 x5 x6
      have y0 := heap_cell HH13.out 0
      have y1 := heap_cell HH13.out 1
      have y2 := heap_cell HH13.out 2
      have y3 := heap_cell HH13.out 3
      have y4 := heap_cell HH13.out 4
      have y5 := heap_cell HH13.out 5
      have y6 := heap_cell HH13.out 6
      simp only [List.getElem?_toArray, List.getElem?_cons_zero, List.getElem?_cons_succ] at y0 y1 y2 y3 y4 y5 y6
      obtain ⟨W10, hW10⟩ : ∃ W10, ((((((((W9.setCell ⟨B8, 0, none⟩ (.int .i64 (n : Int))).setCell ⟨B8, 1, none⟩ (.int .i64 (k : Int))).setCell ⟨B8, 2, none⟩ (.int .i64 (wr0 : Int))).setCell ⟨B8, 3, none⟩ (.int .i64 (r : Int))).setCell ⟨B8, 4, none⟩ (.int .u16 (D' : Int))).setCell ⟨B8, 5, none⟩ (.int .i64 (mw' : Int))).setCell ⟨B8, 6, none⟩ (.slice al' la' cap')) : World) = W10 := ⟨_, rfl⟩
      rw [hW10] at hS10 hR10 hH10 hB10' h1110 h1410
      have HS10 := Lib.hid hS10
      have HR10 := Lib.hid hR10
      have HH8n : Hid (W10.heap[B8]? = some (.cells (shC n k wr0 r D' st'.wr (.slice al' la' cap')) 33 (0, 0))) := Lib.hid (by rw [HMW'.out]; exact hH10)
      have HBn := Lib.hid hB10'
      have H1110 := Lib.hid h1110
      have H1410 := Lib.hid h1410
      have u0 := heap_cell H1110.out 0
      have u1 := heap_cell H1110.out 1
      have u2 := heap_cell H1110.out 2
      have u3 := heap_cell H1110.out 3
      simp only [List.getElem?_toArray, List.getElem?_cons_zero, List.getElem?_cons_succ] at u0 u1 u2 u3
      have v0 := heap_cell H1410.out 0
      have v1 := heap_cell H1410.out 1
      have v2 := heap_cell H1410.out 2
      have v3 := heap_cell H1410.out 3
      simp only [List.getElem?_toArray, List.getElem?_cons_zero, List.getElem?_cons_succ] at v0 v1 v2 v3
      clear hsh hrd8 hno8 hbl8 hb8 hla' hmw' hb9 hb79 hb69 hS9 hA8' hAV' hAv9 hS10 hR10 hH10 hB10' h1110 h1410 hs13 h78 h89 hs69 CR
      go_wp2_with fail
      clear hW9 hW10 hB13
      go_roundw
      case rel => exact ⟨j + 1, D', la', cap', al', st', All', V6, Av9, by go_num, by omega, HS10, HSH', HLA', HR10, HNO', HAV', HA8', HH8n, HBn⟩
      case measure => simp [intOf]; omega
    · obtain rfl : len = j := by omega
      have HBW0 : Hid (Below bs W1 wq) := HBl
      have hsq2 : bs ≤ wq.heap.size := hsq
      have hl3 : la ≤ 30000000 := by rw [← HLA.out]; exact HSL.out.len hn
      go_wp2_with fail
      go_loopw [16] (fun vi wr => ∃ i : Int, vi = .int .i64 i ∧ -1 ≤ i ∧ i ≤ (n : Int) + 1 ∧ Hid (Below wq.heap.size wq wr)) (fun vi _ => ((n : Int) + 1 - intOf vi).toNat)
      case atStart => exact ⟨-1, rfl, by omega, by omega, Lib.hid (Below.refl _ _)⟩
      case round =>
        obtain ⟨i, rfl, hi1, hi2, HBi⟩ := hrel
        obtain ⟨wi, rfl⟩ : ∃ wi, wi = wr := ⟨_, rfl⟩
        have HHi := Lib.hid (((HBW0.out.trans (HBi.out.mono hsq2)).block w.heap.size hlt).trans HH1.out)
        have x0 := heap_cell HHi.out 0
        simp only [List.getElem?_toArray, List.getElem?_cons_zero, List.getElem?_cons_succ] at x0
        by_cases hin : i ≤ (n : Int)
        · have c0 : decide (i ≤ (n : Int)) = true := decide_eq_true hin
          go_wp2_with fail
          clear c0 x0
          go_loopw [17] (fun vk wr => ∃ key : Int, vk = .int .i64 key ∧ -1 ≤ key ∧ key ≤ 4 ∧ Hid (Below wq.heap.size wq wr)) (fun vk _ => ((4 : Int) - intOf vk).toNat)
          case atStart => exact ⟨-1, rfl, by omega, by omega, HBi⟩
          case round =>
            clear HBi HHi
            obtain ⟨key, rfl, hk1', hk2', HBk⟩ := hrel
            obtain ⟨wk, rfl⟩ : ∃ wk, wk = wr := ⟨_, rfl⟩
            by_cases hkey : key ≤ 3
            · have c0 : decide (key ≤ 3) = true := decide_eq_true hkey
              have HSk := Lib.hid (HS.out.below HBk.out)
              have hsk : wq.heap.size ≤ wk.heap.size := HBk.out.size
              have HHk := Lib.hid (((HBW0.out.trans (HBk.out.mono hsq2)).block w.heap.size hlt).trans HH1.out)
              have x0 := heap_cell HHk.out 0
              simp only [List.getElem?_toArray, List.getElem?_cons_zero, List.getElem?_cons_succ] at x0
              by_cases hbad : i < 0 ∨ i = (n : Int) ∨ key < 0 ∨ key = 3
              · have CL := Lib.hid (store_Look_bad i key (by omega) HSk.out)
                unfold LookBad at CL
                by_cases h1 : i < 0
                · have t1 : decide (i < 0) = true := decide_eq_true h1
                  clear hbad h1
                  go_wp2_with fail
                  (with_reducible refine CL.out.mono ?_)
                  rintro e w' ⟨rfl, rfl⟩
                  go_wp2_with fail
                  go_roundw
                  case rel => exact ⟨key + 1, by go_num, by omega, by omega, HBk⟩
                  case measure => simp [intOf]; omega
                have t1 : decide (i < 0) = false := decide_eq_false h1
                by_cases h2 : i = (n : Int)
                · have t2 : (i == (n : Int)) = true := by simp; exact h2
                  clear hbad h1
                  have H2 := Lib.hid h2
                  clear h2
                  go_wp2_with fail
                  (with_reducible refine CL.out.mono ?_)
                  rintro e w' ⟨rfl, rfl⟩
                  go_wp2_with fail
                  go_roundw
                  case rel => exact ⟨key + 1, by go_num, by omega, by omega, HBk⟩
                  case measure => simp [intOf]; omega
                have t2 : (i == (n : Int)) = false := by simp; exact h2
                by_cases h3 : key < 0
                · have t3 : decide (key < 0) = true := decide_eq_true h3
                  clear hbad h1 h2 h3
                  go_wp2_with fail
                  (with_reducible refine CL.out.mono ?_)
                  rintro e w' ⟨rfl, rfl⟩
                  go_wp2_with fail
                  go_roundw
                  case rel => exact ⟨key + 1, by go_num, by omega, by omega, HBk⟩
                  case measure => simp [intOf]; omega
                have t3 : decide (key < 0) = false := decide_eq_false h3
                have t4 : (key == 3) = true := by simp; omega
                clear hbad h1 h2 h3
                go_wp2_with fail
                (with_reducible refine CL.out.mono ?_)
                rintro e w' ⟨rfl, rfl⟩
                go_wp2_with fail
                go_roundw
                case rel => exact ⟨key + 1, by go_num, by omega, by omega, HBk⟩
                case measure => simp [intOf]; omega
              · obtain ⟨I, rfl⟩ : ∃ I : Nat, i = I := ⟨i.toNat, by omega⟩
                obtain ⟨K, rfl⟩ : ∃ K : Nat, key = K := ⟨key.toNat, by omega⟩
                have hI : I < n := by omega
                have hK : K < 3 := by omega
                have t1 : decide ((I : Int) < 0) = false := decide_eq_false (by omega)
                have t2 : ((I : Int) == (n : Int)) = false := by simp; omega
                have t3 : decide ((K : Int) < 0) = false := decide_eq_false (by omega)
                have t4 : ((K : Int) == 3) = false := by simp; omega
                have CL := Lib.hid (store_Look I K hI hK hn HSk.out)
                unfold LookPost at CL
                have CK := Lib.hid (fun W (hb : Below wq.heap.size wq W) => ref_KeptAt n k wr0 r D mw al la ca All I K W HLA.out hl3 (Lib.hid (HRl.out.below hb)))
                unfold KeptPost at CK
                rw [HSL.out.kp I K hI hK] at CK
                have hl6 := HSL.out.ok.len I K
                have hdi := HSL.out.dn I hI
                have hd16 := HSL.out.d
                obtain ⟨L, hL⟩ : ∃ L, st.kp I K = L := ⟨_, rfl⟩
                rw [hL] at CL CK hl6
                obtain ⟨ln, hln⟩ : ∃ ln, L.length = ln := ⟨_, rfl⟩
                rw [hln] at CL CK hl6
                have HLN := Lib.hid hln
                obtain ⟨q, hq⟩ : ∃ q, D / 2 ^ I = q := ⟨_, rfl⟩
                rw [hq] at hdi
                have hq16 : q < 65536 := by rw [← hq]; exact Nat.lt_of_le_of_lt (Nat.div_le_self _ _) hd16
                have e1 : (D : Int) / 2 ^ I = (q : Int) := by rw [← hq]; norm_cast
                have e2 : bits .and .u16 (q : Int) 1 = ((q % 2 : Nat) : Int) := by
                  have := u16_and_nat q 1 hq16 (by omega)
                  rw [Nat.and_one_is_mod] at this
                  exact this
                obtain ⟨p, hp⟩ : ∃ p, q % 2 = p := ⟨_, rfl⟩
                rw [hp] at e2 hdi
                have hp2 : p < 2 := by omega
                have i0 : (0 : Int) ≤ (I : Int) := by omega
                have i16 : (I : Int) ≤ 16 := by omega
                clear hL hln hq hp hbad
                by_cases hp1 : p = 1
                · have t0 : ((p : Int) == 0) = false := by simp; omega
                  have hd : st.dn I = true := by rw [hdi]; simp [hp1]
                  rw [hd] at CL
                  clear hd hdi hp1
                  go_wp2_with fail
                  (with_reducible refine CL.out.mono ?_)
                  rintro e w5 ⟨a5, c5, rfl, ho5, hb5⟩
                  have HB5 : Hid (Below wq.heap.size wq w5) := Lib.hid (HBk.out.trans (hb5.mono hsk))
                  have HR5 : Hid (Reads w5 a5 (kpCells L)) := Lib.hid (own_reads' ho5)
                  have HX5 := Lib.hid ((HB5.out.block B8 (Array.getElem?_eq_some_iff.1 HH8.out).1).trans HH8.out)
                  have HH5 := Lib.hid ((hb5.block w.heap.size (by omega)).trans HHk.out)
                  have x0 := heap_cell HH5.out 0
                  have y0 := heap_cell HX5.out 0
                  have y1 := heap_cell HX5.out 1
                  have y2 := heap_cell HX5.out 2
                  have y3 := heap_cell HX5.out 3
                  have y4 := heap_cell HX5.out 4
                  have y5 := heap_cell HX5.out 5
                  have y6 := heap_cell HX5.out 6
                  simp only [List.getElem?_toArray, List.getElem?_cons_zero, List.getElem?_cons_succ] at x0 y0 y1 y2 y3 y4 y5 y6
                  clear ho5 hb5 CL
                  go_wp2_with fail
                  (with_reducible refine (CK.out _ HB5.out).mono ?_)
                  rintro e w6 ⟨a6, c6, rfl, ho6, hb6⟩
                  have HB6 : Hid (Below wq.heap.size wq w6) := Lib.hid (HB5.out.trans (hb6.mono HB5.out.size))
                  have CS := Lib.hid (same_kept L ln a5 a6 c5 c6 w6 HLN.out hl6 (Lib.hid (HR5.out.below hb6)) (Lib.hid (own_reads' ho6)))
                  clear ho6 hb6 CK x0 y0 y1 y2 y3 y4 y5 y6
                  go_wp2_with fail
                  (with_reducible refine CS.out.mono ?_)
                  rintro e w7 ⟨rfl, q7, rfl⟩
                  have HB7 : Hid (Below wq.heap.size wq (w6.drewN q7)) := Lib.hid (below_drewN HB6.out q7)
                  go_wp2_with fail
                  go_roundw
                  case rel => exact ⟨(K : Int) + 1, by go_num, by omega, by omega, HB7⟩
                  case measure => simp [intOf]; omega
                · have t0 : ((p : Int) == 0) = true := by simp; omega
                  have hd : st.dn I = false := by rw [hdi]; simp [hp1]
                  rw [hd] at CL
                  clear hd hdi hp1
                  go_wp2_with fail
                  (with_reducible refine CL.out.mono ?_)
                  rintro e w5 ⟨a5, c5, rfl, ho5, hb5⟩
                  have HB5 : Hid (Below wq.heap.size wq w5) := Lib.hid (HBk.out.trans (hb5.mono hsk))
                  have HR5 : Hid (Reads w5 a5 (kpCells L)) := Lib.hid (own_reads' ho5)
                  have HX5 := Lib.hid ((HB5.out.block B8 (Array.getElem?_eq_some_iff.1 HH8.out).1).trans HH8.out)
                  have HH5 := Lib.hid ((hb5.block w.heap.size (by omega)).trans HHk.out)
                  have x0 := heap_cell HH5.out 0
                  have y0 := heap_cell HX5.out 0
                  have y1 := heap_cell HX5.out 1
                  have y2 := heap_cell HX5.out 2
                  have y3 := heap_cell HX5.out 3
                  have y4 := heap_cell HX5.out 4
                  have y5 := heap_cell HX5.out 5
                  have y6 := heap_cell HX5.out 6
                  simp only [List.getElem?_toArray, List.getElem?_cons_zero, List.getElem?_cons_succ] at x0 y0 y1 y2 y3 y4 y5 y6
                  clear ho5 hb5 CL
                  go_wp2_with fail
                  (with_reducible refine (CK.out _ HB5.out).mono ?_)
                  rintro e w6 ⟨a6, c6, rfl, ho6, hb6⟩
                  have HB6 : Hid (Below wq.heap.size wq w6) := Lib.hid (HB5.out.trans (hb6.mono HB5.out.size))
                  have CS := Lib.hid (same_kept L ln a5 a6 c5 c6 w6 HLN.out hl6 (Lib.hid (HR5.out.below hb6)) (Lib.hid (own_reads' ho6)))
                  clear ho6 hb6 CK x0 y0 y1 y2 y3 y4 y5 y6
                  go_wp2_with fail
                  (with_reducible refine CS.out.mono ?_)
                  rintro e w7 ⟨rfl, q7, rfl⟩
                  have HB7 : Hid (Below wq.heap.size wq (w6.drewN q7)) := Lib.hid (below_drewN HB6.out q7)
                  go_wp2_with fail
                  go_roundw
                  case rel => exact ⟨(K : Int) + 1, by go_num, by omega, by omega, HB7⟩
                  case measure => simp [intOf]; omega
            · have c0 : decide (key ≤ 3) = false := decide_eq_false hkey
              go_wp2_with fail
              go_roundw
              case rel => exact ⟨i + 1, by go_num, by omega, by omega, HBk⟩
              case measure => simp [intOf]; omega
        · have c0 : decide (i ≤ (n : Int)) = false := decide_eq_false hin
          go_wp2_with fail
          go_ret
          exact ⟨rfl, HB1.out.trans ((HBW0.out.trans (HBi.out.mono hsq2)).mono (Nat.le_of_lt hlt))⟩
theorem plays_walk (a b c d : Int) (ao : Option Addr) (len cap : Nat) (ds : List Dd) (w : World) (_ : (Lit.int .i64 a).wf = true) (_ : (Lit.int .i64 b).wf = true) (_ : (Lit.int .i64 c).wf = true) (_ : (Lit.int .i64 d).wf = true) (hI : DdIn w ao len ds) :
    Calls Try.prog 3 #[qV a b c d, .slice ao len cap] w fun e w' => e = .returned (.bool true) ∧ Below w.heap.size w w' := by
  by_cases hq : qErr a b c d = 0
  · have hk := q_ok hq
    obtain ⟨n, rfl⟩ : ∃ n : Nat, a = n := ⟨a.toNat, by omega⟩
    obtain ⟨k, rfl⟩ : ∃ k : Nat, b = k := ⟨b.toNat, by omega⟩
    obtain ⟨x, rfl⟩ : ∃ x : Nat, c = x := ⟨c.toNat, by omega⟩
    obtain ⟨r, rfl⟩ : ∃ r : Nat, d = r := ⟨d.toNat, by omega⟩
    exact plays_good n k x r ao len cap ds w hq hI
  · exact plays_bad a b c d ao len cap w hq
end Go.Proofs.Ytioecklnijhjgaa
