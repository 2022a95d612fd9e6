/- package store: put. -/
import Derived.Test.YtioecklnijhjgaaStore1
import Derived.Test.YtioecklnijhjgaaStoreI
import Derived.Deep.RegionHeld
namespace Go.Proofs.Ytioecklnijhjgaa
open Go.RowKit

theorem putS_dn {a k key : Nat} {text : ByteArray} (U : List Nat) (st : St) : (U.foldl (putS a k text key) st).dn = st.dn := by
  induction U generalizing st with
  | nil => rfl
  | cons i t ih => rw [List.foldl_cons, ih]; rfl
set_option maxRecDepth 100000 in
set_option maxHeartbeats 8000000 in
theorem store_put {w : World} {base : Nat} {Av : Nat → Prop} {n k wr0 r b nb : Nat} {V : Nat → Nat → Value} {st : St} (kind : Int) (key : Nat) (m : Int) (text : ByteArray) (hkey : key < 3) (ht : text.size ≤ 9223372036854775807) (hk1 : 1 ≤ k) (hkn : k ≤ n) (hn : n ≤ 10) (h : Shf w base Av n k wr0 r b nb V st) :
    Calls Try.prog 19 #[.pointer (some ⟨b, 0, none⟩), deedV kind (key : Int) m text] w (DoPost base Av n k wr0 r b nb (putF n k wr0 st key text) w) := by
  obtain ⟨W1, hW1⟩ : ∃ W1, (w.alloc (.cells #[.int .i64 kind, .int .i64 (key : Int), .int .i64 m, .string text] 36)).alloc (.cells #[.string ⟨#[]⟩, .int .i64 0, .int .i64 0, .int .i64 0] 40) = W1 := ⟨_, rfl⟩
  have hb01 : Below w.heap.size w (w.alloc (.cells #[.int .i64 kind, .int .i64 (key : Int), .int .i64 m, .string text] 36)) := below_alloc _ _
  have hb1 : Below w.heap.size w W1 := by rw [← hW1]; exact hb01.alloc (by simp) _
  have hd1 : W1.heap[w.heap.size]? = some (.cells #[.int .i64 kind, .int .i64 (key : Int), .int .i64 m, .string text] 36 (0, 0)) := by
    rw [← hW1]; exact heap_alloc_old _ _ (heap_alloc_new w _)
  have hr1 : W1.heap[w.heap.size + 1]? = some (.cells #[.string ⟨#[]⟩, .int .i64 0, .int .i64 0, .int .i64 0] 40 (0, 0)) := by
    rw [← hW1]; exact heap_new' _ _ _ (by simp)
  have hsz1 : W1.heap.size = w.heap.size + 2 := by rw [← hW1]; simp
  have CS := Lib.hid (store_split text ht hk1 hkn hn (h.below hb1))
  unfold SplPost at CS
  have HS := Lib.hid h
  have HB1 := Lib.hid hb1
  have HD1 := Lib.hid hd1
  have HR1 := Lib.hid hr1
  have HZ1 := Lib.hid hsz1
  obtain ⟨E, hE⟩ : ∃ E, splE n wr0 st text = E := ⟨_, rfl⟩
  have HE := Lib.hid hE
  rw [hE] at CS
  have HW1 := Lib.hid hW1
  have d1 := heap_cell hd1 1
  have d3 := heap_cell hd1 3
  simp only [List.getElem?_toArray, List.getElem?_cons_zero, List.getElem?_cons_succ] at d1 d3
  clear h hb01 hb1 hd1 hr1 hsz1 hE
  go_enter Try.func19, Try.ntmps19
  go_wp2_with fail
  (with_reducible refine CS.out.mono ?_)
  clear hW1
  rintro e w2 (⟨hne, rfl, hb2⟩ | ⟨h0, g, rfl, hown2, hb2⟩)
  · have r2 := (hb2.block (w.heap.size + 1) (by rw [HZ1.out]; omega)).trans HR1.out
    have r0 := heap_cell r2 0
    have r1 := heap_cell r2 1
    have r2' := heap_cell r2 2
    have r3 := heap_cell r2 3
    simp only [List.getElem?_toArray, List.getElem?_cons_zero, List.getElem?_cons_succ] at r0 r1 r2' r3
    have f0 := heap_frozen r2 0
    have f1 := heap_frozen r2 1
    have f2 := heap_frozen r2 2
    have f3 := heap_frozen r2 3
    have t0 : ((E : Int) != 0) = true := by simp; omega
    have HB2 : Hid (Below w.heap.size w w2) := Lib.hid (HB1.out.trans (hb2.mono HB1.out.size))
    have HNE := Lib.hid hne
    have tc := told_cells r2 (.string ⟨#[]⟩) (.int .i64 0) (.int .i64 0) (.int .i64 0)
    have HW := Lib.hid (HS.out.wide HB2.out)
    have HK := Lib.hid (HS.out.kept HB2.out)
    have HAV : Hid (∀ g, Av g → g ≠ w.heap.size + 1) := Lib.hid fun g hg => by have := HS.out.avlt g hg; omega
    have HBS : Hid (base ≤ w.heap.size + 1) := Lib.hid (by have := HS.out.hb; have := HS.out.blt; omega)
    have HRA : Hid (WideA Av w.heap.size w2.heap.size (w.heap.size + 1)) := Lib.hid (WideA.new (by omega) (by have := hb2.size; have := HZ1.out; omega))
    have HD := Lib.hid (done4 HW.out HK.out (fun x hx => WideA.old hx) HRA.out HAV.out HBS.out (.string ⟨#[]⟩) (.int .i64 0) (.int .i64 0) (.int .i64 0))
    obtain ⟨tc0, tc1, tc2, tc3⟩ := tc
    clear r2 hb2 hne
    go_wp2_with fail
    refine bodyPost_ret (v := .tuple #[.agg #[.string ⟨#[]⟩, .int .i64 0, .int .i64 0, .int .i64 0], .int .i64 (E : Nat)]) (by simp [results, Try.results19, go_sem, tc0, tc1, tc2, tc3]; try rfl) rfl ?_
    have hF : putF n k wr0 st key text = (st, Tl.no, E) := by unfold putF; rw [if_pos (by rw [HE.out]; exact HNE.out), HE.out]
    rw [hF]
    exact ⟨rfl, HD.out⟩
  · have HB2 : Hid (Below w.heap.size w w2) := Lib.hid (HB1.out.trans (hb2.mono HB1.out.size))
    have HZ2 : Hid (w.heap.size + 2 ≤ w2.heap.size) := Lib.hid (by have := hb2.size; have := HZ1.out; omega)
    have HW2 := Lib.hid (HS.out.wide HB2.out)
    have HK2 := Lib.hid (HS.out.kept HB2.out)
    have HD2 := Lib.hid ((hb2.block w.heap.size (by rw [HZ1.out]; omega)).trans HD1.out)
    have HR2 := Lib.hid ((hb2.block (w.heap.size + 1) (by rw [HZ1.out]; omega)).trans HR1.out)
    have HP2 := Lib.hid hown2
    have hE0 : splE n wr0 st text = 0 := by rw [HE.out]; exact h0
    obtain ⟨ht60, _, hwr⟩ := splE_zero hE0
    have hP3 := HW2.out.put_wr hwr
    obtain ⟨W3, hW3⟩ : ∃ W3, w2.setCell ⟨b, 5, none⟩ (.int .i64 ((st.wr + 1 : Nat) : Int)) = W3 := ⟨_, rfl⟩
    have c5 := HW2.out.cells.2.2.2.2.2
    have fb5 := HW2.out.frozen 5
    rw [hW3] at hP3
    have x5 := hP3.1.cells.2.2.2.2.2
    have HP3 := Lib.hid hP3
    have HT60 := Lib.hid ht60
    have HOKU := Lib.hid (HS.out.ok.up1 hwr)
    have HWR := Lib.hid hwr
    have HE0 := Lib.hid hE0
    have hw6 := HS.out.ok.w6
    obtain ⟨A, hA⟩ : ∃ A, st.wr + 1 = A := ⟨_, rfl⟩
    have hA6 : A ≤ 1000000 := by omega
    have wadd : ((st.wr : Nat) : Int) + 1 = (A : Int) := by omega
    have x5' : W3.cell? ⟨b, 5, none⟩ = some (.int .i64 (A : Int)) := by rw [x5]; rw [← hA]; rfl
    rw [hA] at hW3
    clear x5 hP3 hE0 hwr hw6 h0 hown2 hb2 HB1 HD1 HR1 CS
    have HS4 := Lib.hid (HP3.out.1.below (below_alloc W3 (.cells #[.int .i64 (A : Int), .int .i64 0] 38)))
    have CU := Lib.hid (store_up hn HS4.out)
    unfold UpPost at CU
    have hups : ups n st.up1 = ups n st := rfl
    rw [hups] at CU
    have HUM : Hid (∀ i, i ∈ ups n st → i < n) := Lib.hid fun i hi => (mem_ups.1 hi).1
    obtain ⟨U, hU⟩ : ∃ U, ups n st = U := ⟨_, rfl⟩
    rw [hU] at CU HUM
    obtain ⟨u, hu⟩ : ∃ u, U.length = u := ⟨_, rfl⟩
    have hul : u ≤ 10 := by have := ups_len n st; rw [hU, hu] at this; omega
    rw [hu] at CU
    have HU := Lib.hid hU
    have HUL := Lib.hid hu
    have HA := Lib.hid hA
    have HW3 := Lib.hid hW3
    clear hups hU hu
    go_wp2_with fail
    (with_reducible refine CU.out.mono ?_)
    rintro e w5 ⟨ao5, cap5, rfl, hown5, hb5⟩
    clear CU hW3 hA wadd
    have hb35 : Below W3.heap.size W3 w5 := (below_alloc W3 (.cells #[.int .i64 (A : Int), .int .i64 0] 38)).trans (hb5.mono (by simp))
    have hsz4 : W3.heap.size < w5.heap.size := by have := hb5.size; simp at this; omega
    have HSx := Lib.hid (HP3.out.1.wide hb35)
    have HKx := Lib.hid (HK2.out.trans ((HP3.out.2.narrow (fun x hx => WideA.old hx)).trans ((HP3.out.1.kept hb35).narrow (fun x hx => WideA.old hx))))
    have ha5 : w5.heap[W3.heap.size]? = some (.cells #[.int .i64 (A : Int), .int .i64 0] 38 (0, 0)) := (hb5.block _ (by simp)).trans (heap_alloc_new W3 _)
    obtain ⟨ao5', cap5', hv, hR5, _, _⟩ := own_reads hown5
    cases hv
    have HAO : Hid (∀ a, ao5 = some a → W3.heap.size ≤ a.block ∧ a.block < w5.heap.size) := Lib.hid fun a ha => by
      have := hown5.lt a.block (by rw [ha]; rfl)
      simp at this
      omega
    have hd5 : w5.heap[w.heap.size]? = some (.cells #[.int .i64 kind, .int .i64 (key : Int), .int .i64 m, .string text] 36 (0, 0)) := (hb35.block _ (HP3.out.1.avlt _ (WideA.new (Nat.le_refl _) (by have := HZ2.out; omega)))).trans ((HP3.out.2.blk _ (WideA.new (Nat.le_refl _) (by have := HZ2.out; omega))).trans HD2.out)
    have hr5 : w5.heap[w.heap.size + 1]? = some (.cells #[.string ⟨#[]⟩, .int .i64 0, .int .i64 0, .int .i64 0] 40 (0, 0)) := (hb35.block _ (HP3.out.1.avlt _ (WideA.new (by omega) (by have := HZ2.out; omega)))).trans ((HP3.out.2.blk _ (WideA.new (by omega) (by have := HZ2.out; omega))).trans HR2.out)
    have hgl := HP2.out.lt
    have hgA : WideA Av w.heap.size w2.heap.size g := WideA.new (by have := HZ1.out; omega) hgl.2
    have hp5 : ∀ i, i < n → w5.cell? ⟨g, i, none⟩ = some (.string (pcs text k i)) := fun i hi => (hb35.cell (p := ⟨g, i, none⟩) (HP3.out.1.avlt _ hgA)).trans (HP3.out.2.cell hgA (HP2.out.cell hi))
    have HD5 := Lib.hid hd5
    have HR5 := Lib.hid hr5
    have HP5 := Lib.hid hp5
    have HA5 := Lib.hid ha5
    have HGA := Lib.hid hgA
    have HRU := Lib.hid hR5
    have HZ5 := Lib.hid hsz4
    have HXA : Hid (WideA (WideA Av w.heap.size w2.heap.size) W3.heap.size w5.heap.size w.heap.size) := Lib.hid (WideA.old (WideA.new (Nat.le_refl _) (by have := HZ2.out; omega)))
    have HXR : Hid (WideA (WideA Av w.heap.size w2.heap.size) W3.heap.size w5.heap.size (w.heap.size + 1)) := Lib.hid (WideA.old (WideA.new (by omega) (by have := HZ2.out; omega)))
    have HXG : Hid (WideA (WideA Av w.heap.size w2.heap.size) W3.heap.size w5.heap.size g) := Lib.hid (WideA.old hgA)
    have HXT : Hid (WideA (WideA Av w.heap.size w2.heap.size) W3.heap.size w5.heap.size W3.heap.size) := Lib.hid (WideA.new (Nat.le_refl _) hsz4)
    have HXU : Hid (∀ a, ao5 = some a → WideA (WideA Av w.heap.size w2.heap.size) W3.heap.size w5.heap.size a.block) := Lib.hid fun a ha => WideA.new (HAO.out a ha).1 (HAO.out a ha).2
    obtain ⟨Ax, hAx⟩ : ∃ Ax, WideA (WideA Av w.heap.size w2.heap.size) W3.heap.size w5.heap.size = Ax := ⟨_, rfl⟩
    have HOA : Hid (∀ x, Av x → Ax x) := Lib.hid fun x hx => hAx ▸ WideA.old (WideA.old hx)
    rw [hAx] at HSx HXA HXR HXG HXT HXU
    clear hd5 hr5 hp5 ha5 hgA hgl hR5 hsz4 hown5 hb5 hb35 hAx HP3 HP2 HD2 HR2 HW2 HK2 HGA HAO HS4
    go_wp2_with fail
    go_loopw [37] (fun vj wr => ∃ (j : Nat) (V' : Nat → Nat → Value), vj = .int .i64 j ∧ j ≤ u ∧ Hid (Shf wr base Ax n k wr0 r b nb V' ((U.take j).foldl (putS A k text key) st.up1)) ∧ Hid (Kept Ax base w5 wr)) (fun vj _ => u - (intOf vj).toNat)
    case atStart => exact ⟨0, V, rfl, by omega, HSx, Lib.hid (Kept.refl _ _ _)⟩
    case round =>
      clear HSx
      obtain ⟨j, V', rfl, hj, HSj, HKj⟩ := hrel
      obtain ⟨wq, rfl⟩ : ∃ wq, wq = wr := ⟨_, rfl⟩
      by_cases hju : j < u
      · obtain ⟨i, hi⟩ : ∃ i, U[j]? = some i := ⟨U[j]'(by rw [HUL.out]; exact hju), List.getElem?_eq_getElem _⟩
        have hin := HUM.out i (List.mem_of_getElem? hi)
        obtain ⟨bu, ou, hra, xu⟩ := (HKj.out.reads HXU.out HRU.out) j _ (placeR_at hi)
        cases hra
        have HF := Lib.hid (foldl_snocN (putS A k text key) st.up1 hi)
        have hS := HSj.out
        have x4 := hS.cells.2.2.2.2.1
        have xk := hS.kpc hin hkey
        have fk := hS.nodes.frozen (i * 4 + 1 + key)
        have xd := HKj.out.cell HXA.out (o := 1) (c := .int .i64 (key : Int)) (by rw [heap_cell HD5.out]; rfl)
        have xt0 := HKj.out.cell HXT.out (o := 0) (c := .int .i64 (A : Int)) (by rw [heap_cell HA5.out]; rfl)
        have xt1 := HKj.out.cell HXT.out (o := 1) (c := .int .i64 0) (by rw [heap_cell HA5.out]; rfl)
        have xp := HKj.out.cell HXG.out (HP5.out i hin)
        obtain ⟨PC, hPC⟩ : ∃ PC, pcs text k i = PC := ⟨_, rfl⟩
        rw [hPC] at xp
        have HPC := Lib.hid hPC
        have i0 : (0 : Int) ≤ (i : Int) := by omega
        have i1 : (i : Int) < (n : Int) := by omega
        have y0 : (0 : Int) ≤ (key : Int) := by omega
        have y1 : (key : Int) < 3 := by omega
        have hnl := hS.nodes.lt.2
        have hba := below_alloc wq (.cells #[.int .i64 (A : Int), .int .i64 0, .string PC] 50)
        have xk2 := (hba.cell (p := ⟨nb, i * 4 + 1 + key, none⟩) hnl).trans xk
        have fk2 := (hba.frozen (p := ⟨nb, i * 4 + 1 + key, none⟩) hnl).trans fk
        have HNE : Hid (b ≠ nb ∧ w.heap.size ≠ nb ∧ W3.heap.size ≠ nb ∧ g ≠ nb) := Lib.hid ⟨hS.nbb, (hS.av _ HXA.out).2.2, (hS.av _ HXT.out).2.2, (hS.av _ HXG.out).2.2⟩
        clear hi hPC hS hba
        go_wp2_with fail
        go_region_held (fun w' => w'.cell? ⟨b, 4, none⟩ = some (.slice (some ⟨nb, 0, none⟩) n n) ∧ w'.cell? ⟨w.heap.size, 1, none⟩ = some (.int .i64 (key : Int)) ∧ w'.cell? ⟨W3.heap.size, 0, none⟩ = some (.int .i64 (A : Int)) ∧ w'.cell? ⟨W3.heap.size, 1, none⟩ = some (.int .i64 0) ∧ w'.cell? ⟨g, i, none⟩ = some (.string PC)) (first | exact ⟨far_alloc HNE.out.1 x4, far_alloc HNE.out.2.1 xd, far_alloc HNE.out.2.2.1 xt0, far_alloc HNE.out.2.2.1 xt1, far_alloc HNE.out.2.2.2 xp⟩ | go_keep) (fail)
        all_goals
          have hnew := HSj.out.put_row hin hkey (grown_alloc wq (.cells #[.int .i64 (A : Int), .int .i64 0, .string PC] 50) (V' i key).ownBlock) (kp_lit wq base A PC (Nat.le_trans HSj.out.hb (Nat.le_of_lt HSj.out.blt))) (.inr ⟨wq.heap.size, rfl, Nat.le_refl _⟩)
            (by
              have h1 := putS_ok (a := A) (k := k) (key := key) HT60.out hk1 (by have := HA.out; omega) (U.take j) st.up1 (HOKU.out) (by rw [← HA.out]; exact Nat.le_refl _)
              exact h1.1.put i key A (by have := HA.out; omega) (by rw [h1.2.1, ← HA.out]; exact Nat.le_refl _) (by rw [← HPC.out]; exact pcs_size _ _ _ HT60.out hk1))
          rw [World.setCell_alloc_past _ _ _ _ hnl] at hnew
          have HN : Hid (∃ V2, Shf ((wq.setCell ⟨nb, i * 4 + 1 + key, none⟩ (.slice (some ⟨wq.heap.size, 0, none⟩) 1 1)).alloc (.cells #[.int .i64 (A : Int), .int .i64 0, .string PC] 50)).drew base Ax n k wr0 r b nb V2 ((U.take (j + 1)).foldl (putS A k text key) st.up1)) := Lib.hid ⟨_, by rw [HF.out]; unfold putS; rw [HPC.out]; exact hnew.1.below (below_drew1 (Below.refl _ _))⟩
          have HK : Hid (Kept Ax base w5 ((wq.setCell ⟨nb, i * 4 + 1 + key, none⟩ (.slice (some ⟨wq.heap.size, 0, none⟩) 1 1)).alloc (.cells #[.int .i64 (A : Int), .int .i64 0, .string PC] 50)).drew) := Lib.hid (HKj.out.trans (hnew.2.trans ⟨below_drew1 (Below.refl _ _), fun _ _ => rfl⟩))
          obtain ⟨V2, hN⟩ := HN.out
          have HN2 := Lib.hid hN
          clear hnew hN
          go_wp2_with fail
          go_roundw
          case rel => exact ⟨j + 1, V2, by go_num, by omega, HN2, HK⟩
          case measure => simp [intOf]; omega
      · obtain rfl : u = j := by omega
        have r5 := (HKj.out.blk _ HXR.out).trans HR5.out
        have r0 := heap_cell r5 0
        have r1 := heap_cell r5 1
        have r2' := heap_cell r5 2
        have r3 := heap_cell r5 3
        simp only [List.getElem?_toArray, List.getElem?_cons_zero, List.getElem?_cons_succ] at r0 r1 r2' r3
        have f0 := heap_frozen r5 0
        have f1 := heap_frozen r5 1
        have f2 := heap_frozen r5 2
        have f3 := heap_frozen r5 3
        have xt0 := HKj.out.cell HXT.out (o := 0) (c := .int .i64 (A : Int)) (by rw [heap_cell HA5.out]; rfl)
        have xt1 := HKj.out.cell HXT.out (o := 1) (c := .int .i64 0) (by rw [heap_cell HA5.out]; rfl)
        have HAV : Hid (∀ g, Av g → g ≠ w.heap.size + 1) := Lib.hid fun g hg => by have := HS.out.avlt g hg; omega
        have HBS : Hid (base ≤ w.heap.size + 1) := Lib.hid (by have := HS.out.hb; have := HS.out.blt; omega)
        have HD := Lib.hid (done4 HSj.out (HKx.out.trans (HKj.out.narrow HOA.out)) HOA.out HXR.out HAV.out HBS.out (.string ⟨#[]⟩) (.int .i64 (A : Int)) (.int .i64 0) (.int .i64 0))
        have HFU : Hid ((U.take u).foldl (putS A k text key) st.up1 = U.foldl (putS A k text key) st.up1) := Lib.hid (by rw [List.take_of_length_le (by rw [HUL.out]; exact Nat.le_refl _)])
        obtain ⟨tc0, tc1, tc2, tc3⟩ := told_cells r5 (.string ⟨#[]⟩) (.int .i64 (A : Int)) (.int .i64 0) (.int .i64 0)
        clear r5
        go_wp2_with fail
        refine bodyPost_ret (v := .tuple #[.agg #[.string ⟨#[]⟩, .int .i64 (A : Int), .int .i64 0, .int .i64 0], .int .i64 0]) (by simp [results, Try.results19, go_sem, tc0, tc1, tc2, tc3]; try rfl) rfl ?_
        have hF : putF n k wr0 st key text = (U.foldl (putS A k text key) st.up1, ⟨ByteArray.empty, A, 0⟩, 0) := by
          unfold putF
          rw [if_neg (by rw [HE0.out]; simp), HA.out, HU.out]
        rw [hF, ← HFU.out]
        exact ⟨rfl, HD.out⟩
end Go.Proofs.Ytioecklnijhjgaa
