/- package store: torn, the walk. -/
import Derived.Test.YtioecklnijhjgaaPlM31
set_option linter.unusedVariables false
set_option linter.unusedSimpArgs false
namespace Go.Proofs.Ytioecklnijhjgaa
open Go.RowKit

theorem own_capN {w : World} {base e size : Nat} {ao : Option Addr} {n m cap : Nat} {xs : List Value} (h : w.ownsRow base e size (.slice ao n cap) m xs) : n ≤ cap ∧ cap ≤ maxLen := by
  rcases h.2 with ⟨hv, _⟩ | ⟨g, c, cur, hv, _, _, h1, h2, _⟩
  · cases hv; exact ⟨Nat.le_refl _, by unfold maxLen; omega⟩
  · cases hv; exact ⟨h1, h2⟩
set_option maxRecDepth 100000 in
set_option maxHeartbeats 8000000 in
theorem store_torn {w : World} {base : Nat} {Av : Nat → Prop} {n k wr0 r b nb : Nat} {V : Nat → Nat → Value} {st : St} (kind : Int) (key : Nat) (m : Int) (text : ByteArray) (hkey : key < 3) (ht : text.size ≤ 9223372036854775807) (hk1 : 1 ≤ k) (hkn : k ≤ n) (hn : n ≤ 10) (h : Shf w base Av n k wr0 r b nb V st) :
    Calls Try.prog 20 #[.pointer (some ⟨b, 0, none⟩), deedV kind (key : Int) m text] w (DoPost base Av n k wr0 r b nb (tornF n k wr0 st key m text) w) := by
  obtain ⟨W1, hW1⟩ : ∃ W1, ((w.alloc (.cells #[.pointer (some ⟨b, 0, none⟩)] 25)).alloc (.cells #[.int .i64 kind, .int .i64 (key : Int), .int .i64 m, .string text] 36)).alloc (.cells #[.string ⟨#[]⟩, .int .i64 0, .int .i64 0, .int .i64 0] 40) = W1 := ⟨_, rfl⟩
  have hb00 : Below w.heap.size w (w.alloc (.cells #[.pointer (some ⟨b, 0, none⟩)] 25)) := below_alloc _ _
  have hb1 : Below w.heap.size w W1 := by rw [← hW1]; exact (hb00.alloc (by simp) _).alloc (by simp; omega) _
  have hp1 : W1.heap[w.heap.size]? = some (.cells #[.pointer (some ⟨b, 0, none⟩)] 25 (0, 0)) := by rw [← hW1]; exact heap_alloc_old _ _ (heap_alloc_old _ _ (heap_alloc_new w _))
  have hd1 : W1.heap[w.heap.size + 1]? = some (.cells #[.int .i64 kind, .int .i64 (key : Int), .int .i64 m, .string text] 36 (0, 0)) := by rw [← hW1]; exact heap_alloc_old _ _ (heap_new' _ _ _ (by simp))
  have hr1 : W1.heap[w.heap.size + 2]? = some (.cells #[.string ⟨#[]⟩, .int .i64 0, .int .i64 0, .int .i64 0] 40 (0, 0)) := by rw [← hW1]; exact heap_new' _ _ _ (by simp)
  have hsz1 : W1.heap.size = w.heap.size + 3 := by rw [← hW1]; simp
  have p0 := heap_cell hp1 0
  have d1 := heap_cell hd1 1
  have d2 := heap_cell hd1 2
  have d3 := heap_cell hd1 3
  simp only [List.getElem?_toArray, List.getElem?_cons_zero, List.getElem?_cons_succ] at p0 d1 d2 d3
  have CS := Lib.hid (store_split text ht hk1 hkn hn (h.below hb1))
  unfold SplPost at CS
  have HS := Lib.hid h
  have HB1 := Lib.hid hb1
  have HP1 := Lib.hid hp1
  have HD1 := Lib.hid hd1
  have HR1 := Lib.hid hr1
  have HZ1 := Lib.hid hsz1
  have HAV : Hid (∀ g, Av g → g ≠ w.heap.size + 2) := Lib.hid fun g hg => by have := h.avlt g hg; omega
  have HBS : Hid (base ≤ w.heap.size + 2) := Lib.hid (by have := h.hb; have := h.blt; omega)
  obtain ⟨E, hE⟩ : ∃ E, splE n wr0 st text = E := ⟨_, rfl⟩
  have HE := Lib.hid hE
  rw [hE] at CS
  -- what is told where nothing is written
  have HEND : Hid (∀ w2, Below w.heap.size w w2 → w.heap.size + 3 ≤ w2.heap.size → (((∃ V', Shf ((((w2.setCell ⟨w.heap.size + 2, 0, none⟩ (.string ⟨#[]⟩)).setCell ⟨w.heap.size + 2, 1, none⟩ (.int .i64 0)).setCell ⟨w.heap.size + 2, 2, none⟩ (.int .i64 0)).setCell ⟨w.heap.size + 2, 3, none⟩ (.int .i64 0)) base Av n k wr0 r b nb V' st) ∧ Kept Av base w ((((w2.setCell ⟨w.heap.size + 2, 0, none⟩ (.string ⟨#[]⟩)).setCell ⟨w.heap.size + 2, 1, none⟩ (.int .i64 0)).setCell ⟨w.heap.size + 2, 2, none⟩ (.int .i64 0)).setCell ⟨w.heap.size + 2, 3, none⟩ (.int .i64 0))))) := Lib.hid fun w2 hb hz =>
    done4 (HS.out.wide hb) (HS.out.kept hb) (fun x hx => WideA.old hx) (WideA.new (by omega) (by omega)) HAV.out HBS.out _ _ _ _
  clear h hb00 hb1 hp1 hd1 hr1 hsz1 hE
  go_enter Try.func20, Try.ntmps20
  go_wp2_with fail
  (with_reducible refine CS.out.mono ?_)
  clear hW1
  rintro e w2 (⟨hne, rfl, hb2⟩ | ⟨h0, g, rfl, hown2, hb2⟩)
  · have r2 := (hb2.block (w.heap.size + 2) (by rw [HZ1.out]; omega)).trans HR1.out
    have r0 := heap_cell r2 0
    have r1 := heap_cell r2 1
    have r2' := heap_cell r2 2
    have r3 := heap_cell r2 3
    simp only [List.getElem?_toArray, List.getElem?_cons_zero, List.getElem?_cons_succ] at r0 r1 r2' r3
    have f0 := heap_frozen r2 0
    have f1 := heap_frozen r2 1
    have f2 := heap_frozen r2 2
    have f3 := heap_frozen r2 3
    have t0 : ((E : Int) != 0) = true := by simp; omega
    have HB2 : Hid (Below w.heap.size w w2) := Lib.hid (HB1.out.trans (hb2.mono HB1.out.size))
    have HNE := Lib.hid hne
    obtain ⟨tc0, tc1, tc2, tc3⟩ := told_cells r2 (.string ⟨#[]⟩) (.int .i64 0) (.int .i64 0) (.int .i64 0)
    have HD := Lib.hid (HEND.out w2 HB2.out (by have := hb2.size; have := HZ1.out; omega))
    clear r2 hb2 hne
    go_wp2_with fail
    refine bodyPost_ret (v := .tuple #[.agg #[.string ⟨#[]⟩, .int .i64 0, .int .i64 0, .int .i64 0], .int .i64 (E : Nat)]) (by simp [results, Try.results20, go_sem, tc0, tc1, tc2, tc3]; try rfl) rfl ?_
    have hF : tornF n k wr0 st key m text = (st, Tl.no, E) := by unfold tornF; rw [if_pos (by rw [HE.out]; exact HNE.out), HE.out]
    rw [hF]
    exact ⟨rfl, HD.out⟩
  have HB2 : Hid (Below w.heap.size w w2) := Lib.hid (HB1.out.trans (hb2.mono HB1.out.size))
  have HB12 := Lib.hid hb2
  have HE0 : Hid (splE n wr0 st text = 0) := Lib.hid (by rw [HE.out]; exact h0)
  have HPC := Lib.hid hown2
  have p0 := heap_cell ((hb2.block w.heap.size (by rw [HZ1.out]; omega)).trans HP1.out) 0
  simp only [List.getElem?_toArray, List.getElem?_cons_zero] at p0
  have CU := Lib.hid (store_up hn (HS.out.below HB2.out))
  unfold UpPost at CU
  have HUM : Hid (∀ i, i ∈ ups n st → i < n ∧ st.dn i = false) := Lib.hid fun i hi => mem_ups.1 hi
  have HND : Hid (ups n st).Nodup := Lib.hid (pl_nodup _ _)
  have hul := ups_len n st
  obtain ⟨U, hU⟩ : ∃ U, ups n st = U := ⟨_, rfl⟩
  rw [hU] at CU HUM hul HND
  obtain ⟨u, hu⟩ : ∃ u, U.length = u := ⟨_, rfl⟩
  rw [hu] at CU hul
  have HU := Lib.hid hU
  have HUL := Lib.hid hu
  clear h0 hown2 hb2 hU hu CS
  go_wp2_with fail
  (with_reducible refine CU.out.mono ?_)
  rintro e w3 ⟨ao3, cap3, rfl, hown3, hb3⟩
  have HB3 : Hid (Below w.heap.size w w3) := Lib.hid (HB2.out.trans (hb3.mono HB2.out.size))
  have hz3 : w.heap.size + 3 ≤ w3.heap.size := by have := hb3.size; have := HB12.out.size; have := HZ1.out; omega
  have HZ3 := Lib.hid hz3
  have hb13 : Below W1.heap.size W1 w3 := HB12.out.trans (hb3.mono HB12.out.size)
  have HP3 := Lib.hid ((hb13.block w.heap.size (by rw [HZ1.out]; omega)).trans HP1.out)
  have HD3 := Lib.hid ((hb13.block (w.heap.size + 1) (by rw [HZ1.out]; omega)).trans HD1.out)
  have HR3 := Lib.hid ((hb13.block (w.heap.size + 2) (by rw [HZ1.out]; omega)).trans HR1.out)
  have HPC3 := Lib.hid (HPC.out.below hb3)
  have d1 := heap_cell HD3.out 1
  have d2 := heap_cell HD3.out 2
  have r0 := heap_cell HR3.out 0
  have r1 := heap_cell HR3.out 1
  have r2' := heap_cell HR3.out 2
  have r3 := heap_cell HR3.out 3
  simp only [List.getElem?_toArray, List.getElem?_cons_zero, List.getElem?_cons_succ] at d1 d2 r0 r1 r2' r3
  have f0 := heap_frozen HR3.out 0
  have f1 := heap_frozen HR3.out 1
  have f2 := heap_frozen HR3.out 2
  have f3 := heap_frozen HR3.out 3
  have HOU := Lib.hid hown3
  have hcap := (own_capN hown3).1
  have hcap2 := (own_capN hown3).2
  clear CU hown3 hb3 hb13 p0 d3 HPC
  by_cases g0 : m < 0 ∨ (u : Int) < m
  · have hF : Hid (tornF n k wr0 st key m text = (st, Tl.no, 1)) := Lib.hid (by unfold tornF; rw [if_neg (by rw [HE0.out]; simp), HU.out, HUL.out, if_pos g0])
    obtain ⟨tc0, tc1, tc2, tc3⟩ := told_cells HR3.out (.string ⟨#[]⟩) (.int .i64 0) (.int .i64 0) (.int .i64 0)
    have HD := Lib.hid (HEND.out w3 HB3.out hz3)
    by_cases g1 : m < 0
    · have t1 : decide (m < 0) = true := decide_eq_true g1
      clear g0 g1
      go_wp2_with fail
      refine bodyPost_ret (v := .tuple #[.agg #[.string ⟨#[]⟩, .int .i64 0, .int .i64 0, .int .i64 0], .int .i64 1]) (by simp [results, Try.results20, go_sem, tc0, tc1, tc2, tc3]; try rfl) rfl ?_
      rw [hF.out]
      exact ⟨rfl, HD.out⟩
    · have t1 : decide (m < 0) = false := decide_eq_false g1
      have t2 : decide ((u : Int) < m) = true := decide_eq_true (by omega)
      clear g0 g1
      go_wp2_with fail
      refine bodyPost_ret (v := .tuple #[.agg #[.string ⟨#[]⟩, .int .i64 0, .int .i64 0, .int .i64 0], .int .i64 1]) (by simp [results, Try.results20, go_sem, tc0, tc1, tc2, tc3]; try rfl) rfl ?_
      rw [hF.out]
      exact ⟨rfl, HD.out⟩
  obtain ⟨M, rfl⟩ : ∃ M : Nat, m = M := ⟨m.toNat, by omega⟩
  have hMu : M ≤ u := by omega
  have t1 : decide ((M : Int) < 0) = false := decide_eq_false (by omega)
  have t2 : decide ((u : Int) < (M : Int)) = false := decide_eq_false (by omega)
  have t2' : decide (u < M) = false := decide_eq_false (by omega)
  have m0 : (0 : Int) ≤ (M : Int) := by omega
  have m1 : (M : Int) ≤ (cap3 : Int) := by omega
  have m1' : M ≤ cap3 := by omega
  clear g0
  have HRU := Lib.hid (own_reads' HOU.out)
  have HLT3 : Hid (∀ a, ao3 = some a → w.heap.size ≤ a.block ∧ a.block < w3.heap.size) := Lib.hid fun a ha => by
    have h1 := HOU.out.lt a.block (by rw [ha]; rfl)
    have h2 := HB2.out.size
    omega
  have HUT : Hid (∀ i ∈ U.take M, i < n) := Lib.hid fun i hi => (HUM.out i (List.mem_of_mem_take hi)).1
  obtain ⟨UM, hUM⟩ : ∃ UM, U.take M = UM := ⟨_, rfl⟩
  have hML : UM.length = M := by rw [← hUM, List.length_take]; have := HUL.out; omega
  have HRM : Hid (Reads w3 ao3 ((UM.map fun a : Nat => (a : Int)).map (Value.int .i64))) := Lib.hid (by
    intro j v hv
    apply HRU.out j v
    rw [← hUM] at hv
    unfold placeR
    rw [List.getElem?_map] at hv ⊢
    rw [List.getElem?_map, List.getElem?_take] at hv
    split at hv
    · cases hu : U[j]? with
      | none => rw [hu] at hv; cases hv
      | some a => rw [hu] at hv; simpa using hv
    · cases hv)
  have CF := containsFunc_cap2 40 (.pointer (some ⟨w.heap.size, 0, none⟩)) (.pointer (some ⟨w.heap.size + 1, 0, none⟩)) (fun x W => run_torn x _ _ W) (fun x => decide (8 ≤ (st.kp x.toNat key).length)) (UM.map fun a : Nat => (a : Int)) ao3 cap3 w3 (by rw [List.length_map, hML]; omega) HRM (Lib.hid fun x hx q => by
    obtain ⟨i, hi, rfl⟩ := List.mem_map.1 hx
    have hin := HUT.out i (by rw [hUM]; exact hi)
    have h1 := torn_clo (w := w3.drewN q) i key w.heap.size (w.heap.size + 1) hin hkey hn (HS.out.below (below_drewN HB3.out q)) (by
      show w3.cell? _ = _
      rw [heap_cell HP3.out]; rfl) (by
      show w3.cell? _ = _
      rw [heap_cell HD3.out]; rfl)
    exact h1)
  rw [List.length_map, hML, List.any_map] at CF
  have HCF := Lib.hid CF
  have HML := Lib.hid hML
  have HUMT := Lib.hid hUM
  have HF0 : Hid (tornF n k wr0 st key (M : Int) text = if UM.any (fun i => decide (8 ≤ (st.kp i key).length)) = true then (st, Tl.no, 11) else (UM.foldl (tornS (st.wr + 1) k text key) st.up1, ⟨ByteArray.empty, st.wr + 1, 0⟩, 0)) := Lib.hid (by
    unfold tornF
    rw [if_neg (by rw [HE0.out]; simp), HU.out, HUL.out, if_neg (by omega)]
    rw [Int.toNat_natCast, hUM])
  obtain ⟨t, htt⟩ : ∃ t, UM.any (fun i => decide (8 ≤ (st.kp i key).length)) = t := ⟨_, rfl⟩
  have e9 : UM.any ((fun x : Int => decide (8 ≤ (st.kp x.toNat key).length)) ∘ fun a : Nat => (a : Int)) = t := by rw [← htt]; rfl
  rw [e9] at HCF
  rw [htt] at HF0
  clear CF hML hUM htt e9
  go_wp2_with fail
  (with_reducible refine HCF.out.mono ?_)
  rintro e w4 ⟨rfl, q4, rfl⟩
  cases t with
  | true =>
    have hF : Hid (tornF n k wr0 st key (M : Int) text = (st, Tl.no, 11)) := Lib.hid (by rw [HF0.out, if_pos rfl])
    have HR4 : Hid ((w3.drewN q4).heap[w.heap.size + 2]? = some (.cells #[.string ⟨#[]⟩, .int .i64 0, .int .i64 0, .int .i64 0] 40 (0, 0))) := Lib.hid HR3.out
    obtain ⟨W4, hW4⟩ : ∃ W4, w3.drewN q4 = W4 := ⟨_, rfl⟩
    have HD := Lib.hid (HEND.out (w3.drewN q4) (below_drewN HB3.out q4) hz3)
    rw [hW4] at HR4 HD ⊢
    clear hW4 r0 r1 r2' r3 f0 f1 f2 f3
    have r0 := heap_cell HR4.out 0
    have r1 := heap_cell HR4.out 1
    have r2' := heap_cell HR4.out 2
    have r3 := heap_cell HR4.out 3
    simp only [List.getElem?_toArray, List.getElem?_cons_zero, List.getElem?_cons_succ] at r0 r1 r2' r3
    have f0 := heap_frozen HR4.out 0
    have f1 := heap_frozen HR4.out 1
    have f2 := heap_frozen HR4.out 2
    have f3 := heap_frozen HR4.out 3
    obtain ⟨tc0, tc1, tc2, tc3⟩ := told_cells HR4.out (.string ⟨#[]⟩) (.int .i64 0) (.int .i64 0) (.int .i64 0)
    go_wp2_with fail
    refine bodyPost_ret (v := .tuple #[.agg #[.string ⟨#[]⟩, .int .i64 0, .int .i64 0, .int .i64 0], .int .i64 11]) (by simp [results, Try.results20, go_sem, tc0, tc1, tc2, tc3]; try rfl) rfl ?_
    rw [hF.out]
    exact ⟨rfl, HD.out⟩
  | false =>
    have hF : Hid (tornF n k wr0 st key (M : Int) text = (UM.foldl (tornS (st.wr + 1) k text key) st.up1, ⟨ByteArray.empty, st.wr + 1, 0⟩, 0)) := Lib.hid (by rw [HF0.out, if_neg (by simp)])
    obtain ⟨W4, hW4⟩ : ∃ W4, w3.drewN q4 = W4 := ⟨_, rfl⟩
    have HB34 : Hid (Below w3.heap.size w3 W4) := Lib.hid (by rw [← hW4]; exact below_dr _ _ q4)
    have HB4 : Hid (Below w.heap.size w W4) := Lib.hid (HB3.out.trans (HB34.out.mono HB3.out.size))
    have hz34 : W4.heap.size = w3.heap.size := by rw [← hW4]; rfl
    rw [hW4]
    obtain ⟨ht60, _, hwr⟩ := splE_zero HE0.out
    have HW4 := Lib.hid (HS.out.wide HB4.out)
    have HK4 := Lib.hid (HS.out.kept HB4.out)
    have hP5 := HW4.out.put_wr hwr
    obtain ⟨W5, hW5⟩ : ∃ W5, W4.setCell ⟨b, 5, none⟩ (.int .i64 ((st.wr + 1 : Nat) : Int)) = W5 := ⟨_, rfl⟩
    have c5 := HW4.out.cells.2.2.2.2.2
    have fb5 := HW4.out.frozen 5
    rw [hW5] at hP5
    have x5 := hP5.1.cells.2.2.2.2.2
    have HP5 := Lib.hid hP5
    have HOKU := Lib.hid (HS.out.ok.up1 hwr)
    have HT60 := Lib.hid ht60
    have hw6 := HS.out.ok.w6
    obtain ⟨A, hA⟩ : ∃ A, st.wr + 1 = A := ⟨_, rfl⟩
    have hA6 : A ≤ 1000000 := by omega
    have wadd : ((st.wr : Nat) : Int) + 1 = (A : Int) := by omega
    have x5' : W5.cell? ⟨b, 5, none⟩ = some (.int .i64 (A : Int)) := by rw [x5]; rw [← hA]; rfl
    rw [hA] at hW5 hF
    have HA := Lib.hid hA
    have hAP : WideA Av w.heap.size W4.heap.size w.heap.size := WideA.new (Nat.le_refl _) (by omega)
    have hAD : WideA Av w.heap.size W4.heap.size (w.heap.size + 1) := WideA.new (by omega) (by omega)
    have hAR : WideA Av w.heap.size W4.heap.size (w.heap.size + 2) := WideA.new (by omega) (by omega)
    have hAG : WideA Av w.heap.size W4.heap.size g := WideA.new (by have := HPC3.out.lt; have := HZ1.out; omega) (by have := HPC3.out.lt; omega)
    have hAU : ∀ a, ao3 = some a → WideA Av w.heap.size W4.heap.size a.block := fun a ha => WideA.new (HLT3.out a ha).1 (by have := (HLT3.out a ha).2; omega)
    have p4 : W4.cell? ⟨w.heap.size, 0, none⟩ = some (.pointer (some ⟨b, 0, none⟩)) := by rw [← hW4]; show w3.cell? _ = _; rw [heap_cell HP3.out]; rfl
    have p5 := hP5.2.cell hAP p4
    obtain ⟨W6, hW6⟩ : ∃ W6, W5.alloc (.cells #[.int .i64 (A : Int), .int .i64 0] 38) = W6 := ⟨_, rfl⟩
    have hb56 : Below W5.heap.size W5 W6 := by rw [← hW6]; exact below_alloc _ _
    have hat6 : W6.heap[W5.heap.size]? = some (.cells #[.int .i64 (A : Int), .int .i64 0] 38 (0, 0)) := by rw [← hW6]; exact heap_alloc_new _ _
    have hz6 : W6.heap.size = W5.heap.size + 1 := by rw [← hW6]; simp
    have HS6 := Lib.hid (hP5.1.wide hb56)
    have hk46 : Kept (WideA Av w.heap.size W4.heap.size) base W4 W6 := hP5.2.trans (hP5.1.kept hb56)
    have HK6 : Hid (Kept Av base w W6) := Lib.hid (HK4.out.trans (hk46.narrow fun x hx => WideA.old hx))
    have hb4 := fun (gg : Nat) (hh : WideA Av w.heap.size W4.heap.size gg) => hk46.blk gg hh
    have HP6 : Hid (W6.heap[w.heap.size]? = some (.cells #[.pointer (some ⟨b, 0, none⟩)] 25 (0, 0))) := Lib.hid ((hb4 _ hAP).trans (by rw [← hW4]; exact HP3.out))
    have HD6 : Hid (W6.heap[w.heap.size + 1]? = some (.cells #[.int .i64 kind, .int .i64 (key : Int), .int .i64 (M : Int), .string text] 36 (0, 0))) := Lib.hid ((hb4 _ hAD).trans (by rw [← hW4]; exact HD3.out))
    have HR6 : Hid (W6.heap[w.heap.size + 2]? = some (.cells #[.string ⟨#[]⟩, .int .i64 0, .int .i64 0, .int .i64 0] 40 (0, 0))) := Lib.hid ((hb4 _ hAR).trans (by rw [← hW4]; exact HR3.out))
    have HG6 : Hid (∀ i, i < n → W6.cell? ⟨g, i, none⟩ = some (.string (pcs text k i))) := Lib.hid fun i hi => hk46.cell hAG ((HB34.out.cell (p := ⟨g, i, none⟩) HPC3.out.lt.2).trans (HPC3.out.cell hi))
    have HRU6 : Hid (Reads W6 ao3 (placeR UM)) := Lib.hid (by
      have h1 : Reads W4 ao3 (placeR UM) := by
        have h2 := HRM.out.below HB34.out
        unfold placeR
        rw [List.map_map] at h2
        exact h2
      exact hk46.reads hAU h1)
    have HAT6 := Lib.hid hat6
    have HXP : Hid (WideA (WideA Av w.heap.size W4.heap.size) W5.heap.size W6.heap.size w.heap.size) := Lib.hid (WideA.old hAP)
    have HXD : Hid (WideA (WideA Av w.heap.size W4.heap.size) W5.heap.size W6.heap.size (w.heap.size + 1)) := Lib.hid (WideA.old hAD)
    have HXR : Hid (WideA (WideA Av w.heap.size W4.heap.size) W5.heap.size W6.heap.size (w.heap.size + 2)) := Lib.hid (WideA.old hAR)
    have HXG : Hid (WideA (WideA Av w.heap.size W4.heap.size) W5.heap.size W6.heap.size g) := Lib.hid (WideA.old hAG)
    have HXT : Hid (WideA (WideA Av w.heap.size W4.heap.size) W5.heap.size W6.heap.size W5.heap.size) := Lib.hid (WideA.new (Nat.le_refl _) (by omega))
    have HXU : Hid (∀ a, ao3 = some a → WideA (WideA Av w.heap.size W4.heap.size) W5.heap.size W6.heap.size a.block) := Lib.hid fun a ha => WideA.old (hAU a ha)
    have HOA : Hid (∀ x, Av x → WideA (WideA Av w.heap.size W4.heap.size) W5.heap.size W6.heap.size x) := Lib.hid fun x hx => WideA.old (WideA.old hx)
    obtain ⟨Ax, hAx⟩ : ∃ Ax, WideA (WideA Av w.heap.size W4.heap.size) W5.heap.size W6.heap.size = Ax := ⟨_, rfl⟩
    rw [hAx] at HS6 HXP HXD HXR HXG HXT HXU HOA
    have HW5 := Lib.hid hW5
    have HW6 := Lib.hid hW6
    clear hW4 hP5 x5 hb56 hat6 hk46 hb4 hAP hAD hAR hAG hAU hAx ht60 hwr hw6 HEND HCF hA
    clear r0 r1 r2' r3 f0 f1 f2 f3 hW6
    go_wp2_with fail
    rw [HW6.out]
    clear hW5
    go_loopw [59] (fun vj wr => ∃ (j : Nat) (V' : Nat → Nat → Value), vj = .int .i64 j ∧ j ≤ M ∧ Hid (Shf wr base Ax n k wr0 r b nb V' ((UM.take j).foldl (tornS A k text key) st.up1)) ∧ Hid (Kept Ax base W6 wr)) (fun vj _ => M - (intOf vj).toNat)
    case atStart => exact ⟨0, V, rfl, by omega, HS6, Lib.hid (Kept.refl _ _ _)⟩
    case round =>
      clear HS6
      obtain ⟨j, V', rfl, hj, HSj, HKj⟩ := hrel
      obtain ⟨wq, rfl⟩ : ∃ wq, wq = wr := ⟨_, rfl⟩
      by_cases hju : j < M
      · obtain ⟨i, hi⟩ : ∃ i, UM[j]? = some i := ⟨UM[j]'(by rw [HML.out]; exact hju), List.getElem?_eq_getElem _⟩
        have hin := HUT.out i (by rw [HUMT.out]; exact List.mem_of_getElem? hi)
        obtain ⟨bu, ou, hra, xu⟩ := (HKj.out.reads HXU.out HRU6.out) j _ (placeR_at hi)
        cases hra
        have HFN := Lib.hid (foldl_snocN (tornS A k text key) st.up1 hi)
        have hndM : UM.Nodup := by rw [← HUMT.out]; exact HND.out.sublist (List.take_sublist _ _)
        have hOKj := tornS_ok (a := A) (k := k) (key := key) (text := text) HT60.out hk1 (by have := HA.out; omega) (UM.take j) st.up1 (hndM.sublist (List.take_sublist _ _)) HOKU.out (by rw [← HA.out]; exact Nat.le_refl _) (fun i _ x hx => by
          have := (HS.out.ok.rng i key x hx).2.1
          have := HA.out
          omega)
        have hnot : i ∉ UM.take j := by
          intro hm
          obtain ⟨q, hq⟩ := List.getElem?_of_mem hm
          rw [List.getElem?_take] at hq
          split at hq
          · rename_i hqj
            have h1 := List.getElem?_eq_some_iff.1 hq
            have h2 := List.getElem?_eq_some_iff.1 hi
            have h3 := (List.nodup_iff_pairwise_ne.1 hndM)
            rw [List.pairwise_iff_getElem] at h3
            exact h3 q j h1.1 h2.1 hqj (h1.2.trans h2.2.symm)
          · cases hq
        have hkpi : ((UM.take j).foldl (tornS A k text key) st.up1).kp i key = st.kp i key := (hOKj.2.2 i hnot).trans rfl
        obtain ⟨sj, hsj⟩ : ∃ sj, (UM.take j).foldl (tornS A k text key) st.up1 = sj := ⟨_, rfl⟩
        rw [hsj] at HSj HFN hOKj hkpi
        have hS := HSj.out
        have x4 := hS.cells.2.2.2.2.1
        obtain ⟨ak, ck, hvk, hRk, hnk⟩ := hS.reads hin hkey
        have xk := hS.kpc hin hkey
        rw [hvk] at xk
        have fk := hS.nodes.frozen (i * 4 + 1 + key)
        have hnl := hS.nodes.lt.2
        have hvb := hS.vb i key hin hkey
        have hrow := hS.row i key hin hkey
        rw [hvk] at hvb hrow
        have hlk6 := hOKj.1.len i key
        have hxs : ∀ x ∈ sj.kp i key, x.1 < A := fun x hx => by
          rw [hkpi] at hx
          have := (HS.out.ok.rng i key x hx).2.1
          have := HA.out
          omega
        have HOKN : Hid (Okst (sj.set i key (sj.kp i key ++ [(A, pcs text k i)]))) := Lib.hid (hOKj.1.torn i key A hxs (by have := HA.out; omega) (by rw [hOKj.2.1, ← HA.out]; exact Nat.le_refl _) (pcs_size _ _ _ HT60.out hk1))
        have xp0 := HKj.out.cell HXP.out (o := 0) (c := .pointer (some ⟨b, 0, none⟩)) (by rw [heap_cell HP6.out]; rfl)
        have xd1 := HKj.out.cell HXD.out (o := 1) (c := .int .i64 (key : Int)) (by rw [heap_cell HD6.out]; rfl)
        have xt0 := HKj.out.cell HXT.out (o := 0) (c := .int .i64 (A : Int)) (by rw [heap_cell HAT6.out]; rfl)
        have xt1 := HKj.out.cell HXT.out (o := 1) (c := .int .i64 0) (by rw [heap_cell HAT6.out]; rfl)
        have xg := HKj.out.cell HXG.out (HG6.out i hin)
        obtain ⟨PC, hPC⟩ : ∃ PC, pcs text k i = PC := ⟨_, rfl⟩
        rw [hPC] at xg HOKN
        have HPCC := Lib.hid hPC
        obtain ⟨L, hL⟩ : ∃ L, sj.kp i key = L := ⟨_, rfl⟩
        rw [hL] at hvk hvb hrow xk hlk6 HOKN
        obtain ⟨lk, hlk⟩ : ∃ lk, L.length = lk := ⟨_, rfl⟩
        rw [hlk] at hvk hvb hrow xk hlk6
        have HLL := Lib.hid hL
        have HLK := Lib.hid hlk
        have HVK := Lib.hid hvk
        have HROW : Hid (wq.ownsRow base 50 3 (.slice ak lk ck) lk (kpCells L)) := Lib.hid hrow
        have HNB : Hid (some nb ≠ (Value.slice ak lk ck).ownBlock) := Lib.hid (fun e => hvb.2 e.symm)
        have HNL := Lib.hid hnl
        have HXK := Lib.hid xk
        have HFK := Lib.hid fk
        have HBASE : Hid (base ≤ wq.heap.size) := Lib.hid (Nat.le_trans hS.hb (Nat.le_of_lt hS.blt))
        have hm1 : Hid (lk + 1 ≤ maxLen) := Lib.hid (by unfold maxLen; omega)
        have hm2 : Hid ((lk + 1) * 32 ≤ 140737488355328) := Lib.hid (by omega)
        have i0 : (0 : Int) ≤ (i : Int) := by omega
        have i1 : (i : Int) < (n : Int) := by omega
        have y0 : (0 : Int) ≤ (key : Int) := by omega
        have y1 : (key : Int) < 3 := by omega
        have xk2 := ((below_alloc wq (.cells #[.int .i64 (A : Int), .int .i64 0, .string PC] 50)).cell (p := ⟨nb, i * 4 + 1 + key, none⟩) hnl).trans xk
        clear hi hPC hS hL hlk hRk hvk hOKj hnk hsj hndM hnot hkpi hxs hrow hvb hnl
        go_wp2_with fail
        go_region_held (fun w' => w'.cell? ⟨w.heap.size, 0, none⟩ = some (.pointer (some ⟨b, 0, none⟩)) ∧ w'.cell? ⟨b, 4, none⟩ = some (.slice (some ⟨nb, 0, none⟩) n n) ∧ w'.cell? ⟨w.heap.size + 1, 1, none⟩ = some (.int .i64 (key : Int))) (go_keep) (fail)
        all_goals
          go_wp2_with fail
          go_region_law (first
            | (go_loud (refine step_app_kp ?_ (.tmp 76) (.tmp 83) 45 ?_ base 50 _ 3 32 Try.underlying45 keptInfo (.slice ak lk ck) lk (kpCells L) ?_ wq HROW.out HBASE.out ?_ ?_ #[.int .i64 (A : Int), .int .i64 0, .string PC] ?_ ?_ rfl ?_ hm1.out hm2.out ?_); (focus rfl); (focus rfl); (focus rfl); (focus (repeat (first | (with_reducible exact Below.refl _ _) | (with_reducible apply below_drew1) | (with_reducible apply below_drewN) | (with_reducible refine Below.alloc ?_ (by simp; try omega) _) | fail))); rotate_left; (focus rfl); (focus (repeat (first | (with_reducible exact heap_new' _ _ _ (by simp; try omega)) | (with_reducible apply heap_drew) | (with_reducible apply heap_drewN) | (with_reducible apply heap_alloc_old) | fail))); (focus (intro u hu; simp at hu; rcases hu with rfl | rfl | rfl <;> rfl)); intro g9 c9 w9 hown9 hgr9 hat9; have xk9 : w9.cell? ⟨nb, i * 4 + 1 + key, none⟩ = some (.slice ak lk ck) := hgr9.cell HXK.out HNB.out; have fk9 : w9.frozen? ⟨nb, i * 4 + 1 + key, none⟩ = false := (blk_frozen (hgr9.block nb HNL.out HNB.out)).trans HFK.out)
            | fail)
          all_goals
            have hlen : lk + 1 = (L ++ [(A, PC)]).length := by rw [List.length_append, HLK.out]; rfl
            have hnew := HSj.out.put_row (l := L ++ [(A, PC)]) hin hkey (by rw [HVK.out]; exact hgr9) (by rw [← hlen, kpCells_snoc]; exact hown9) (by
              rw [HVK.out]
              rcases hat9 with e | e
              · exact .inl e.symm
              · exact .inr ⟨g9, rfl, e⟩) HOKN.out
            have HN1 : Hid (Shf (w9.setCell ⟨nb, i * 4 + 1 + key, none⟩ (.slice (some ⟨g9, 0, none⟩) (lk + 1) c9)) base Ax n k wr0 r b nb (setV V' i key (.slice (some ⟨g9, 0, none⟩) (lk + 1) c9)) ((UM.take (j + 1)).foldl (tornS A k text key) st.up1)) := Lib.hid (by
              rw [HFN.out]
              unfold tornS
              rw [HLL.out, HPCC.out]
              exact hnew.1)
            have HN2 : Hid (Kept Ax base W6 (w9.setCell ⟨nb, i * 4 + 1 + key, none⟩ (.slice (some ⟨g9, 0, none⟩) (lk + 1) c9))) := Lib.hid (HKj.out.trans hnew.2)
            clear hnew hlen hown9 hgr9 hat9
            go_wp2_with fail
            go_roundw
            case rel => exact ⟨j + 1, _, by go_num, by omega, HN1, HN2⟩
            case measure => simp [intOf]; omega
      · obtain rfl : M = j := by omega
        have r5 := (HKj.out.blk _ HXR.out).trans HR6.out
        have r0 := heap_cell r5 0
        have r1 := heap_cell r5 1
        have r2' := heap_cell r5 2
        have r3 := heap_cell r5 3
        simp only [List.getElem?_toArray, List.getElem?_cons_zero, List.getElem?_cons_succ] at r0 r1 r2' r3
        have f0 := heap_frozen r5 0
        have f1 := heap_frozen r5 1
        have f2 := heap_frozen r5 2
        have f3 := heap_frozen r5 3
        have xt0 := HKj.out.cell HXT.out (o := 0) (c := .int .i64 (A : Int)) (by rw [heap_cell HAT6.out]; rfl)
        have xt1 := HKj.out.cell HXT.out (o := 1) (c := .int .i64 0) (by rw [heap_cell HAT6.out]; rfl)
        have HD := Lib.hid (done4 HSj.out (HK6.out.trans (HKj.out.narrow HOA.out)) HOA.out HXR.out HAV.out HBS.out (.string ⟨#[]⟩) (.int .i64 (A : Int)) (.int .i64 0) (.int .i64 0))
        have HFU : Hid ((UM.take M).foldl (tornS A k text key) st.up1 = UM.foldl (tornS A k text key) st.up1) := Lib.hid (by rw [List.take_of_length_le (by rw [HML.out]; exact Nat.le_refl _)])
        obtain ⟨tc0, tc1, tc2, tc3⟩ := told_cells r5 (.string ⟨#[]⟩) (.int .i64 (A : Int)) (.int .i64 0) (.int .i64 0)
        clear r5
        go_wp2_with fail
        refine bodyPost_ret (v := .tuple #[.agg #[.string ⟨#[]⟩, .int .i64 (A : Int), .int .i64 0, .int .i64 0], .int .i64 0]) (by simp [results, Try.results20, go_sem, tc0, tc1, tc2, tc3]; try rfl) rfl ?_
        rw [hF.out, ← HFU.out]
        exact ⟨rfl, HD.out⟩
end Go.Proofs.Ytioecklnijhjgaa
