/- package store: read. -/
import Derived.Test.YtioecklnijhjgaaStore3
import Derived.Test.YtioecklnijhjgaaContK
set_option linter.unusedVariables false
set_option linter.unusedSimpArgs false
namespace Go.Proofs.Ytioecklnijhjgaa
open Go.RowKit

theorem grown_of_below {w w' : World} (h : Below w.heap.size w w') (r : Option Nat) : w.grownBy w' r := ⟨h.os, h.tape, h.output, h.size, fun k hk _ => h.block k hk⟩
def ReadPost (base : Nat) (Av : Nat → Prop) (n k wr r b nb : Nat) (R : St × Tl × Nat) (w : World) (e : Ending) (w' : World) : Prop :=
  e = .returned (.tuple #[.agg #[.string R.2.1.tx, .int .i64 (R.2.1.at' : Int), .int .i64 0, .int .i64 0], .int .i64 (R.2.1.mn : Nat), .int .i64 (R.2.2 : Nat)]) ∧ (∃ V', Shf w' base Av n k wr r b nb V' R.1) ∧ Kept Av base w w'
theorem fixS_ok {a k key : Nat} {text : ByteArray} (hs : text.size ≤ 60) (hk : 1 ≤ k) (ha : 1 ≤ a) : ∀ (U : List Nat) (P : St × Nat), Okst P.1 → a ≤ P.1.wr → Okst (U.foldl (fixS k text a key) P).1 ∧ (U.foldl (fixS k text a key) P).1.wr = P.1.wr ∧ (U.foldl (fixS k text a key) P).2 ≤ P.2 + U.length
  | [], P, h, _ => ⟨h, rfl, by simp⟩
  | i :: t, P, h, h2 => by
    have h3 := fixS_ok (key := key) hs hk ha t (fixS k text a key P i) (h.fix i key a ha h2 (pcs_size _ _ _ hs hk)) h2
    refine ⟨h3.1, h3.2.1, Nat.le_trans h3.2.2 ?_⟩
    show P.2 + (if _ then 0 else 1) + t.length ≤ P.2 + (t.length + 1)
    split <;> omega
theorem fil_snoc {l : List Kp} {q : Nat} {x : Kp} (a : Nat) (h : l[q]? = some x) : (l.take (q + 1)).filter (fun x => decide (a < x.1)) = (l.take q).filter (fun x => decide (a < x.1)) ++ if a < x.1 then [x] else [] := by
  obtain ⟨hq, he⟩ := List.getElem?_eq_some_iff.1 h
  rw [List.take_succ_eq_append_getElem hq, he, List.filter_append]
  by_cases hx : a < x.1
  · rw [if_pos hx]; simp [hx]
  · rw [if_neg hx]; simp [hx]
theorem newest_ok {n k : Nat} {st : St} {key : Nat} (hok : Okst st) (h : (newest n k st key).2.2 = true) : 1 ≤ (newest n k st key).1 ∧ (newest n k st key).1 ≤ st.wr := by
  obtain ⟨i, x, _, hx, he⟩ := newest_in h
  rw [← he]
  exact ⟨(hok.rng i key x hx).1, (hok.rng i key x hx).2.1⟩
set_option maxRecDepth 100000 in
set_option maxHeartbeats 8000000 in
theorem store_read {w : World} {base : Nat} {Av : Nat → Prop} {n k wr0 r b nb : Nat} {V : Nat → Nat → Value} {st : St} (key : Nat) (hkey : key < 3) (hk1 : 1 ≤ k) (hkn : k ≤ n) (hn : n ≤ 10) (h : Shf w base Av n k wr0 r b nb V st) :
    Calls Try.prog 21 #[.pointer (some ⟨b, 0, none⟩), .int .i64 (key : Int)] w (ReadPost base Av n k wr0 r b nb (readF n k wr0 r st key) w) := by
  obtain ⟨W1, hW1⟩ : ∃ W1, w.alloc (.cells #[.string ⟨#[]⟩, .int .i64 0, .int .i64 0, .int .i64 0] 40) = W1 := ⟨_, rfl⟩
  have hb1 : Below w.heap.size w W1 := by rw [← hW1]; exact below_alloc _ _
  have hr1 : W1.heap[w.heap.size]? = some (.cells #[.string ⟨#[]⟩, .int .i64 0, .int .i64 0, .int .i64 0] 40 (0, 0)) := by rw [← hW1]; exact heap_alloc_new w _
  have hsz1 : W1.heap.size = w.heap.size + 1 := by rw [← hW1]; simp
  have HS := Lib.hid h
  have HS1 := Lib.hid (h.below hb1)
  have CU := Lib.hid (store_up hn HS1.out)
  unfold UpPost at CU
  have HB1 := Lib.hid hb1
  have HR1 := Lib.hid hr1
  have HZ1 := Lib.hid hsz1
  have HUM : Hid (∀ i, i ∈ ups n st → i < n) := Lib.hid fun i hi => (mem_ups.1 hi).1
  have hul := ups_len n st
  obtain ⟨U, hU⟩ : ∃ U, ups n st = U := ⟨_, rfl⟩
  rw [hU] at CU HUM hul
  obtain ⟨u, hu⟩ : ∃ u, U.length = u := ⟨_, rfl⟩
  rw [hu] at CU hul
  have HU := Lib.hid hU
  have HUL := Lib.hid hu
  have HAV : Hid (∀ g, Av g → g ≠ w.heap.size) := Lib.hid fun g hg => by have := h.avlt g hg; omega
  have HBS : Hid (base ≤ w.heap.size) := Lib.hid (by have := h.hb; have := h.blt; omega)
  clear h hb1 hr1 hsz1 hU hu
  go_enter Try.func21, Try.ntmps21
  go_wp2_with fail
  (with_reducible refine CU.out.mono ?_)
  clear hW1
  rintro e w2 ⟨ao2, cap2, rfl, hown2, hb2⟩
  have HB2 : Hid (Below w.heap.size w w2) := Lib.hid (HB1.out.trans (hb2.mono HB1.out.size))
  have HR2 := Lib.hid ((hb2.block w.heap.size (by rw [HZ1.out]; omega)).trans HR1.out)
  have HZ2 : Hid (w.heap.size < w2.heap.size) := Lib.hid (by have := hb2.size; have := HZ1.out; omega)
  have hS2 := HS.out.below HB2.out
  have c2 := hS2.cells.2.2.1
  have c3 := hS2.cells.2.2.2.1
  have HS2 := Lib.hid hS2
  have HOU := Lib.hid hown2
  clear CU hown2 hb2 hS2
  by_cases g0 : u < r ∨ u < wr0
  · have hF : Hid (readF n k wr0 r st key = (st, Tl.no, 9)) := Lib.hid (by unfold readF; rw [HU.out, HUL.out, if_pos g0])
    have r0 := heap_cell HR2.out 0
    have r1 := heap_cell HR2.out 1
    have r2' := heap_cell HR2.out 2
    have r3 := heap_cell HR2.out 3
    simp only [List.getElem?_toArray, List.getElem?_cons_zero, List.getElem?_cons_succ] at r0 r1 r2' r3
    have f0 := heap_frozen HR2.out 0
    have f1 := heap_frozen HR2.out 1
    have f2 := heap_frozen HR2.out 2
    have f3 := heap_frozen HR2.out 3
    obtain ⟨tc0, tc1, tc2, tc3⟩ := told_cells HR2.out (.string ⟨#[]⟩) (.int .i64 0) (.int .i64 0) (.int .i64 0)
    have HD := Lib.hid (done4 (HS.out.wide HB2.out) (HS.out.kept HB2.out) (fun x hx => WideA.old hx) (WideA.new (Nat.le_refl _) HZ2.out) HAV.out HBS.out (.string ⟨#[]⟩) (.int .i64 0) (.int .i64 0) (.int .i64 0))
    by_cases g1 : u < r
    · have d1 : decide (u < r) = true := decide_eq_true g1
      have d1' : decide ((u : Int) < (r : Int)) = true := decide_eq_true (by omega)
      clear g0 g1
      go_wp2_with fail
      refine bodyPost_ret (v := .tuple #[.agg #[.string ⟨#[]⟩, .int .i64 0, .int .i64 0, .int .i64 0], .int .i64 0, .int .i64 9]) (by simp [results, Try.results21, go_sem, tc0, tc1, tc2, tc3]; try rfl) rfl ?_
      rw [hF.out]
      exact ⟨rfl, HD.out⟩
    · have d1 : decide (u < r) = false := decide_eq_false g1
      have d1' : decide ((u : Int) < (r : Int)) = false := decide_eq_false (by omega)
      have g2 : u < wr0 := by omega
      have d2 : decide (u < wr0) = true := decide_eq_true g2
      have d2' : decide ((u : Int) < (wr0 : Int)) = true := decide_eq_true (by omega)
      clear g0 g1 g2
      go_wp2_with fail
      refine bodyPost_ret (v := .tuple #[.agg #[.string ⟨#[]⟩, .int .i64 0, .int .i64 0, .int .i64 0], .int .i64 0, .int .i64 9]) (by simp [results, Try.results21, go_sem, tc0, tc1, tc2, tc3]; try rfl) rfl ?_
      rw [hF.out]
      exact ⟨rfl, HD.out⟩
  have d1 : decide (u < r) = false := decide_eq_false (by omega)
  have d1' : decide ((u : Int) < (r : Int)) = false := decide_eq_false (by omega)
  have d2 : decide (u < wr0) = false := decide_eq_false (by omega)
  have d2' : decide ((u : Int) < (wr0 : Int)) = false := decide_eq_false (by omega)
  have CN := Lib.hid (store_newest key hkey hk1 hkn hn HS2.out)
  unfold NewPost at CN
  have hns := newest_size (n := n) (k := k) (st := st) (key := key) hk1
  have HNO : Hid ((newest n k st key).2.2 = true → 1 ≤ (newest n k st key).1 ∧ (newest n k st key).1 ≤ st.wr) := Lib.hid (newest_ok HS.out.ok)
  have HF0 : Hid (readF n k wr0 r st key = if (newest n k st key).2.2 = false then (st, Tl.no, 4) else ((U.foldl (fixS k (newest n k st key).2.1 (newest n k st key).1 key) (st, 0)).1, ⟨(newest n k st key).2.1, (newest n k st key).1, (U.foldl (fixS k (newest n k st key).2.1 (newest n k st key).1 key) (st, 0)).2⟩, 0)) := Lib.hid (by
    unfold readF
    rw [HU.out, HUL.out, if_neg g0])
  obtain ⟨NW, hNW⟩ : ∃ NW, newest n k st key = NW := ⟨_, rfl⟩
  rw [hNW] at CN hns HF0 HNO
  obtain ⟨a, text, fd⟩ := NW
  dsimp only at CN hns HF0 HNO
  clear hNW g0
  go_wp2_with fail
  (with_reducible refine CN.out.mono ?_)
  rintro e w3 ⟨rfl, hb3⟩
  have HB3 : Hid (Below w.heap.size w w3) := Lib.hid (HB2.out.trans (hb3.mono HB2.out.size))
  have HR3 := Lib.hid ((hb3.block w.heap.size HZ2.out).trans HR2.out)
  have HOU3 := Lib.hid (own_below HOU.out hb3)
  have HZ3 : Hid (w.heap.size < w3.heap.size) := Lib.hid (Nat.lt_of_lt_of_le HZ2.out hb3.size)
  clear CN hb3 HOU c2 c3
  cases fd with
  | false =>
    have hF : Hid (readF n k wr0 r st key = (st, Tl.no, 4)) := Lib.hid (by rw [HF0.out, if_pos rfl])
    have hb4 : Below w.heap.size w (w3.alloc (.cells #[.int .i64 (a : Int), .int .i64 0] 38)) := HB3.out.alloc HB3.out.size _
    have hr4 := heap_alloc_old w3 (.cells #[.int .i64 (a : Int), .int .i64 0] 38) HR3.out
    have r0 := heap_cell HR3.out 0
    have r1 := heap_cell HR3.out 1
    have r2' := heap_cell HR3.out 2
    have r3 := heap_cell HR3.out 3
    simp only [List.getElem?_toArray, List.getElem?_cons_zero, List.getElem?_cons_succ] at r0 r1 r2' r3
    have f0 := heap_frozen HR3.out 0
    have f1 := heap_frozen HR3.out 1
    have f2 := heap_frozen HR3.out 2
    have f3 := heap_frozen HR3.out 3
    obtain ⟨tc0, tc1, tc2, tc3⟩ := told_cells hr4 (.string ⟨#[]⟩) (.int .i64 0) (.int .i64 0) (.int .i64 0)
    have hD := done4 (HS.out.wide hb4) (HS.out.kept hb4) (fun x hx => WideA.old hx) (WideA.new (Nat.le_refl _) (by have := HZ3.out; simp; omega)) HAV.out HBS.out (.string ⟨#[]⟩) (.int .i64 0) (.int .i64 0) (.int .i64 0)
    have hlt3 := HZ3.out
    rw [World.setCell_alloc_past _ _ _ _ hlt3, World.setCell_alloc_past _ _ _ _ (by simpa using hlt3), World.setCell_alloc_past _ _ _ _ (by simpa using hlt3), World.setCell_alloc_past _ _ _ _ (by simpa using hlt3)] at tc0 tc1 tc2 tc3 hD
    have HD := Lib.hid hD
    clear hb4 hr4 hD HNO HF0
    go_wp2_with fail
    refine bodyPost_ret (v := .tuple #[.agg #[.string ⟨#[]⟩, .int .i64 0, .int .i64 0, .int .i64 0], .int .i64 0, .int .i64 4]) (by simp [results, Try.results21, go_sem, tc0, tc1, tc2, tc3]; try rfl) rfl ?_
    rw [hF.out]
    exact ⟨rfl, HD.out⟩
  | true =>
    obtain ⟨ha1, ha2⟩ := HNO.out rfl
    have HF : Hid (readF n k wr0 r st key = ((U.foldl (fixS k text a key) (st, 0)).1, ⟨text, a, (U.foldl (fixS k text a key) (st, 0)).2⟩, 0)) := Lib.hid (by rw [HF0.out, if_neg (by simp)])
    obtain ⟨W4, hW4⟩ : ∃ W4, w3.alloc (.cells #[.int .i64 (a : Int), .int .i64 0] 38) = W4 := ⟨_, rfl⟩
    have hb34 : Below w3.heap.size w3 W4 := by rw [← hW4]; exact below_alloc _ _
    have hat4 : W4.heap[w3.heap.size]? = some (.cells #[.int .i64 (a : Int), .int .i64 0] 38 (0, 0)) := by rw [← hW4]; exact heap_alloc_new w3 _
    have hz4 : W4.heap.size = w3.heap.size + 1 := by rw [← hW4]; simp
    have HB4 : Hid (Below w.heap.size w W4) := Lib.hid (HB3.out.trans (hb34.mono HB3.out.size))
    have hS4 := HS.out.below HB4.out
    have c0 := hS4.cells.1
    have c1 := hS4.cells.2.1
    have HBL : Hid (b < W4.heap.size) := Lib.hid hS4.blt
    have CG := Lib.hid (fun W => piece_Split text k n W hns hk1 hkn hn)
    unfold SplitPost at CG
    have HB34 := Lib.hid hb34
    have HAT4 := Lib.hid hat4
    have HZ4 := Lib.hid hz4
    have HW4 := Lib.hid hW4
    rw [← hW4] at c0 c1
    have HC := Lib.hid (And.intro c0 c1)
    clear hb34 hat4 hz4 hW4 hS4 HNO HF0
    go_wp2_with fail
    go_region_held3 (fun w' => w'.cell? ⟨b, 0, none⟩ = some (.int .i64 (n : Int)) ∧ w'.cell? ⟨b, 1, none⟩ = some (.int .i64 (k : Int))) (first | exact ⟨(hb5.cell (p := ⟨b, 0, none⟩) (by rw [HW4.out]; exact HBL.out)).trans c0, (hb5.cell (p := ⟨b, 1, none⟩) (by rw [HW4.out]; exact HBL.out)).trans c1⟩ | exact ⟨(hb5.cell (p := ⟨b, 0, none⟩) (show b < (w3.alloc _).heap.size by rw [HW4.out]; exact HBL.out)).trans c0, (hb5.cell (p := ⟨b, 1, none⟩) (show b < (w3.alloc _).heap.size by rw [HW4.out]; exact HBL.out)).trans c1⟩ | go_keep) (first | (go_at_call 42; (with_reducible refine (CG.out _).mono ?_); rintro e w5 ⟨g, rfl, hown5, hb5⟩))
    all_goals
      rw [HW4.out] at hown5 hb5
      have hb45 : Below W4.heap.size W4 w5 := by first | exact hb5 | exact (below_drew1 (Below.refl _ _)).trans hb5
      have HB5 : Hid (Below w.heap.size w w5) := Lib.hid (HB4.out.trans (hb45.mono HB4.out.size))
      have HSx := Lib.hid (HS.out.wide HB5.out)
      have HKx := Lib.hid (HS.out.kept HB5.out)
      have hb35 := HB34.out.trans (hb45.mono (by rw [HZ4.out]; omega))
      have HR5 := Lib.hid ((hb35.block w.heap.size HZ3.out).trans HR3.out)
      have HT5 := Lib.hid ((hb45.block w3.heap.size (by rw [HZ4.out]; omega)).trans HAT4.out)
      have hz5 : w3.heap.size < w5.heap.size := by have := hb45.size; rw [HZ4.out] at this; omega
      have HOU5 := Lib.hid (own_below HOU3.out hb35)
      have HPC : Hid (Own w5 W4.heap.size 9 g n n fun j => .string (pcs text k j)) := Lib.hid hown5
      have hgl := HPC.out.lt
      have HRU := Lib.hid (own_reads' HOU5.out)
      have HXR : Hid (WideA Av w.heap.size w5.heap.size w.heap.size) := Lib.hid (WideA.new (Nat.le_refl _) (by have := HZ3.out; omega))
      have HXT : Hid (WideA Av w.heap.size w5.heap.size w3.heap.size) := Lib.hid (WideA.new (by have := HZ3.out; omega) hz5)
      have HXG : Hid (WideA Av w.heap.size w5.heap.size g) := Lib.hid (WideA.new (by have := HZ3.out; have := HZ4.out; omega) hgl.2)
      have HXU : Hid (∀ x, ao2 = some x → WideA Av w.heap.size w5.heap.size x.block) := Lib.hid fun x hx => by
        have := HOU5.out.lt x.block (by rw [hx]; rfl)
        have := HZ1.out
        exact WideA.new (by omega) (by omega)
      have HOA : Hid (∀ x, Av x → WideA Av w.heap.size w5.heap.size x) := Lib.hid fun x hx => WideA.old hx
      obtain ⟨Ax, hAx⟩ : ∃ Ax, WideA Av w.heap.size w5.heap.size = Ax := ⟨_, rfl⟩
      rw [hAx] at HSx HXR HXT HXG HXU HOA
      have HOK0 := Lib.hid HS.out.ok
      have HA12 := Lib.hid (And.intro ha1 ha2)
      have HPS : Hid (∀ i, i < n → w5.cell? ⟨g, i, none⟩ = some (.string (pcs text k i))) := Lib.hid fun i hi => HPC.out.cell hi
      have HNS := Lib.hid hns
      have ha6 : a ≤ 1000000 := by have := HS.out.ok.w6; omega
      clear hown5 hb5 hb45 hb35 hz5 hgl hAx HPC HOU5 HOU3 HR3 HAT4 HB34 HS1 HB1 HR1 HB2 HR2 HS2 HB4 HBL c0 c1 HC CG
      go_wp2_with fail
      go_loopw [13, 69] (fun vm vj wr => ∃ (j m : Nat) (V' : Nat → Nat → Value), vj = .int .i64 j ∧ j ≤ u ∧ vm = .int .i64 m ∧ m ≤ j ∧ Hid (((U.take j).foldl (fixS k text a key) (st, 0)).2 = m) ∧ Hid (Shf wr base Ax n k wr0 r b nb V' ((U.take j).foldl (fixS k text a key) (st, 0)).1) ∧ Hid (Kept Ax base w5 wr)) (fun _ vj _ => u - (intOf vj).toNat)
      case atStart => exact ⟨0, 0, V, rfl, by omega, rfl, by omega, Lib.hid rfl, HSx, Lib.hid (Kept.refl _ _ _)⟩
      case round =>
        clear HSx
        obtain ⟨j, m, V', rfl, hj, rfl, hm, HM, HSj, HKj⟩ := hrel
        obtain ⟨wq, rfl⟩ : ∃ wq, wq = wr := ⟨_, rfl⟩
        by_cases hju : j < u
        · obtain ⟨i, hi⟩ : ∃ i, U[j]? = some i := ⟨U[j]'(by rw [HUL.out]; exact hju), List.getElem?_eq_getElem _⟩
          have hin := HUM.out i (List.mem_of_getElem? hi)
          obtain ⟨bu, ou, hra, xu⟩ := (HKj.out.reads HXU.out HRU.out) j _ (placeR_at hi)
          cases hra
          have HFN := Lib.hid (foldl_snocN (fixS k text a key) (st, 0) hi)
          have hOKj := fixS_ok (a := a) (k := k) (key := key) HNS.out hk1 HA12.out.1 (U.take j) (st, 0) HOK0.out HA12.out.2
          obtain ⟨P, hP⟩ : ∃ P, (U.take j).foldl (fixS k text a key) (st, 0) = P := ⟨_, rfl⟩
          rw [hP] at HFN hOKj HM HSj
          obtain ⟨sj, mj⟩ := P
          have hmj : mj = m := HM.out
          subst hmj
          dsimp only at HFN hOKj HSj
          have hS := HSj.out
          have x4 := hS.cells.2.2.2.2.1
          obtain ⟨ak, ck, hvk, hRk, hnk⟩ := hS.reads hin hkey
          have xk := hS.kpc hin hkey
          rw [hvk] at xk
          have fk := hS.nodes.frozen (i * 4 + 1 + key)
          have xt0 := HKj.out.cell HXT.out (o := 0) (c := .int .i64 (a : Int)) (by rw [heap_cell HT5.out]; rfl)
          have xt1 := HKj.out.cell HXT.out (o := 1) (c := .int .i64 0) (by rw [heap_cell HT5.out]; rfl)
          have xp := HKj.out.cell HXG.out (HPS.out i hin)
          obtain ⟨PC, hPC⟩ : ∃ PC, pcs text k i = PC := ⟨_, rfl⟩
          rw [hPC] at xp
          have HPCC := Lib.hid hPC
          obtain ⟨L, hL⟩ : ∃ L, sj.kp i key = L := ⟨_, rfl⟩
          have hlk6 := hOKj.1.len i key
          rw [hL] at hvk hRk hnk xk hlk6
          obtain ⟨lk, hlk⟩ : ∃ lk, L.length = lk := ⟨_, rfl⟩
          rw [hlk] at hvk hnk xk hlk6
          have HL := Lib.hid hL
          have HLK := Lib.hid hlk
          have HRK := Lib.hid hRk
          have HVK := Lib.hid hvk
          have HOKj := Lib.hid hOKj
          have HI := Lib.hid hi
          have HP := Lib.hid hP
          have i0 : (0 : Int) ≤ (i : Int) := by omega
          have i1 : (i : Int) < (n : Int) := by omega
          have y0 : (0 : Int) ≤ (key : Int) := by omega
          have y1 : (key : Int) < 3 := by omega
          have hnl := hS.nodes.lt.2
          have hba := below_alloc wq (.cells #[.int .i64 (a : Int), .int .i64 0, .string PC] 50)
          have xk2 := (hba.cell (p := ⟨nb, i * 4 + 1 + key, none⟩) hnl).trans xk
          have fk2 := (hba.frozen (p := ⟨nb, i * 4 + 1 + key, none⟩) hnl).trans fk
          clear hi hPC hS hL hlk hRk hvk hOKj hP hba hnk
          go_wp2_with fail
          go_region_held (fun w' => w'.cell? ⟨w3.heap.size, 0, none⟩ = some (.int .i64 (a : Int)) ∧ w'.cell? ⟨w3.heap.size, 1, none⟩ = some (.int .i64 0) ∧ w'.cell? ⟨g, i, none⟩ = some (.string PC)) (go_keep) (fail)
          have HCT : Hid (∀ W, Below wq.heap.size wq W → Calls Try.prog 43 #[.slice ak lk ck, .agg #[.int .i64 (a : Int), .int .i64 0, .string PC]] W (BoolB' (hasK L a PC) W)) := Lib.hid fun W hb => contains_kept L lk a PC ak ck W HLK.out (by omega) (Lib.hid (HRK.out.below hb))
          unfold BoolB' at HCT
          obtain ⟨B, hB⟩ : ∃ B, hasK L a PC = B := ⟨_, rfl⟩
          rw [hB] at HCT
          have HBV := Lib.hid hB
          have HNL := Lib.hid hnl
          have hba := below_alloc wq (.cells #[.int .i64 (a : Int), .int .i64 0, .string PC] 50)
          have HBA := Lib.hid hba
          have HSA : Hid ((wq.alloc (.cells #[.int .i64 (a : Int), .int .i64 0, .string PC] 50)).heap.size = wq.heap.size + 1) := Lib.hid (by simp)
          have v0 : (wq.alloc (.cells #[.int .i64 (a : Int), .int .i64 0, .string PC] 50)).cell? ⟨wq.heap.size, 0, none⟩ = some (.int .i64 (a : Int)) := by simp [World.cell?_alloc_new]
          have v1 : (wq.alloc (.cells #[.int .i64 (a : Int), .int .i64 0, .string PC] 50)).cell? ⟨wq.heap.size, 1, none⟩ = some (.int .i64 0) := by simp [World.cell?_alloc_new]
          have v2 : (wq.alloc (.cells #[.int .i64 (a : Int), .int .i64 0, .string PC] 50)).cell? ⟨wq.heap.size, 2, none⟩ = some (.string PC) := by simp [World.cell?_alloc_new]
          have HXK := Lib.hid xk
          have HFK := Lib.hid fk
          have HXT0 := Lib.hid xt0
          have HXT1 := Lib.hid xt1
          have HT3 : Hid (w3.heap.size < wq.heap.size) := Lib.hid (World.block_lt_of_cell? _ _ xt0)
          clear hB hba
          all_goals
            go_wp2_with fail
            go_region_held3 (fun w' => w'.cell? ⟨nb, i * 4 + 1 + key, none⟩ = some (.slice ak lk ck) ∧ w'.cell? ⟨wq.heap.size, 0, none⟩ = some (.int .i64 (a : Int)) ∧ w'.cell? ⟨wq.heap.size, 1, none⟩ = some (.int .i64 0) ∧ w'.cell? ⟨wq.heap.size, 2, none⟩ = some (.string PC)) (first | exact ⟨(hb7.cell (p := ⟨nb, i * 4 + 1 + key, none⟩) (show nb < (wq.alloc _).heap.size by rw [HSA.out]; have := HNL.out; omega)).trans xk2, (hb7.cell (p := ⟨wq.heap.size, 0, none⟩) (show wq.heap.size < (wq.alloc _).heap.size by rw [HSA.out]; omega)).trans v0, (hb7.cell (p := ⟨wq.heap.size, 1, none⟩) (show wq.heap.size < (wq.alloc _).heap.size by rw [HSA.out]; omega)).trans v1, (hb7.cell (p := ⟨wq.heap.size, 2, none⟩) (show wq.heap.size < (wq.alloc _).heap.size by rw [HSA.out]; omega)).trans v2⟩ | go_keep)
              (first | (go_at_call 43; (with_reducible refine (HCT.out _ (by first | exact below_drew1 HBA.out | exact below_drew1 (below_drew1 HBA.out))).mono ?_); rintro e w7 ⟨rfl, hb7⟩))
            have hb7w : Below wq.heap.size wq w7 := by
              first
                | exact (below_drew1 HBA.out).trans (hb7.mono (show wq.heap.size ≤ (wq.alloc _).heap.size by rw [HSA.out]; omega))
                | exact (below_drew1 (below_drew1 HBA.out)).trans (hb7.mono (show wq.heap.size ≤ (wq.alloc _).heap.size by rw [HSA.out]; omega))
            have HB7 := Lib.hid hb7w
            have q0 := (hb7.cell (p := ⟨wq.heap.size, 0, none⟩) (show wq.heap.size < (wq.alloc _).heap.size by rw [HSA.out]; omega)).trans v0
            have q1 := (hb7.cell (p := ⟨wq.heap.size, 1, none⟩) (show wq.heap.size < (wq.alloc _).heap.size by rw [HSA.out]; omega)).trans v1
            have q2 := (hb7.cell (p := ⟨wq.heap.size, 2, none⟩) (show wq.heap.size < (wq.alloc _).heap.size by rw [HSA.out]; omega)).trans v2
            have q0' : w7.cell? ⟨wq.heap.size, 0, none⟩ = some (.int .i64 (a : Int)) := q0
            have q1' : w7.cell? ⟨wq.heap.size, 1, none⟩ = some (.int .i64 0) := q1
            have q2' : w7.cell? ⟨wq.heap.size, 2, none⟩ = some (.string PC) := q2
            have xk7 : w7.cell? ⟨nb, i * 4 + 1 + key, none⟩ = some (.slice ak lk ck) := (HB7.out.cell (p := ⟨nb, i * 4 + 1 + key, none⟩) HNL.out).trans HXK.out
            obtain ⟨gq, hgq⟩ : ∃ gq, w7.heap.size = gq := ⟨_, rfl⟩
            have HGQ := Lib.hid hgq
            have hb8 : Below w7.heap.size w7 (w7.alloc (.cells #[.int .i64 (a : Int), .int .i64 0, .string PC] 50)) := below_alloc _ _
            have HB8 : Hid (Below gq w7 (w7.alloc (.cells #[.int .i64 (a : Int), .int .i64 0, .string PC] 50))) := Lib.hid (hgq ▸ hb8)
            have HO8 : Hid ((w7.alloc (.cells #[.int .i64 (a : Int), .int .i64 0, .string PC] 50)).ownsRow gq 50 3 (.slice (some ⟨w7.heap.size, 0, none⟩) 1 1) 1 (kpCells [(a, PC)])) := Lib.hid (by
              have := kp_lit w7 w7.heap.size a PC (Nat.le_refl _)
              rw [hgq] at this ⊢
              exact this)
            have xk8 := (hb8.cell (p := ⟨nb, i * 4 + 1 + key, none⟩) (World.block_lt_of_cell? _ _ xk7)).trans xk7
            clear hgq hb7 hb7w q0 q1 q2 xk2 fk2 v0 v1 v2 xt0 xt1 xk fk hb8 HCT
            cases B
            all_goals
              simp only [Bool.not_true, Bool.not_false]
              go_wp2_with fail
              go_loopw [18, 102] (fun vn vq wr => ∃ q : Nat, vq = .int .i64 q ∧ q ≤ lk ∧ Hid (wr.ownsRow gq 50 3 vn (1 + ((L.take q).filter (fun x => decide (a < x.1))).length) (kpCells ((a, PC) :: (L.take q).filter (fun x => decide (a < x.1))))) ∧ Hid (Below gq w7 wr)) (fun _ vq _ => lk - (intOf vq).toNat)
              case atStart => exact ⟨0, rfl, by omega, Lib.hid (by simpa using HO8.out), HB8⟩
              case round =>
                clear HO8 HB8
                obtain ⟨q, rfl, hq, HO, HBq⟩ := hrel
                obtain ⟨wz, rfl⟩ : ∃ wz, wz = wr := ⟨_, rfl⟩
                have HBz : Hid (Below wq.heap.size wq wz) := Lib.hid (HB7.out.trans (HBq.out.mono (by rw [← HGQ.out]; exact HB7.out.size)))
                have HZz : Hid (gq ≤ wz.heap.size) := Lib.hid (by rw [← HGQ.out]; exact (HGQ.out ▸ HBq.out).size)
                by_cases hql : q < lk
                · obtain ⟨bk, ok, hrk, z0, z1, z2⟩ := kp_cells (HRK.out.below HBz.out) (k := q) (by rw [HLK.out]; exact hql)
                  cases hrk
                  obtain ⟨x, hx⟩ : ∃ x, L[q]'(by rw [HLK.out]; exact hql) = x := ⟨_, rfl⟩
                  have HXQ : Hid (L[q]? = some x) := Lib.hid (by rw [List.getElem?_eq_getElem (by rw [HLK.out]; exact hql), hx])
                  rw [hx] at z0 z2
                  obtain ⟨c, s⟩ := x
                  have HFS := Lib.hid (fil_snoc a HXQ.out)
                  have hfl : ((L.take q).filter (fun x => decide (a < x.1))).length ≤ q := Nat.le_trans (List.length_filter_le _ _) (List.length_take_le _ _)
                  have HFL := Lib.hid hfl
                  obtain ⟨fl, hfl2⟩ : ∃ fl, ((L.take q).filter (fun x => decide (a < x.1))).length = fl := ⟨_, rfl⟩
                  rw [hfl2] at HO hfl
                  have HFL2 := Lib.hid hfl2
                  have hbz1 := below_alloc wz (.cells #[.int .i64 (c : Int), .int .i64 0, .string s] 50)
                  have HBZ1 := Lib.hid hbz1
                  have HSZ1 : Hid ((wz.alloc (.cells #[.int .i64 (c : Int), .int .i64 0, .string s] 50)).heap.size = wz.heap.size + 1) := Lib.hid (by simp)
                  have ht0 := (HBz.out.cell (p := ⟨w3.heap.size, 0, none⟩) HT3.out).trans HXT0.out
                  have ht1 := (HBz.out.cell (p := ⟨w3.heap.size, 1, none⟩) HT3.out).trans HXT1.out
                  have m0 := (hbz1.cell (p := ⟨w3.heap.size, 0, none⟩) (World.block_lt_of_cell? _ _ ht0)).trans ht0
                  have m1 := (hbz1.cell (p := ⟨w3.heap.size, 1, none⟩) (World.block_lt_of_cell? _ _ ht1)).trans ht1
                  have n0 : (wz.alloc (.cells #[.int .i64 (c : Int), .int .i64 0, .string s] 50)).cell? ⟨wz.heap.size, 0, none⟩ = some (.int .i64 (c : Int)) := by simp [World.cell?_alloc_new]
                  have n1 : (wz.alloc (.cells #[.int .i64 (c : Int), .int .i64 0, .string s] 50)).cell? ⟨wz.heap.size, 1, none⟩ = some (.int .i64 0) := by simp [World.cell?_alloc_new]
                  have n2 : (wz.alloc (.cells #[.int .i64 (c : Int), .int .i64 0, .string s] 50)).cell? ⟨wz.heap.size, 2, none⟩ = some (.string s) := by simp [World.cell?_alloc_new]
                  have HN012 := Lib.hid (And.intro n0 (And.intro n1 n2))
                  have CN := Lib.hid (fun W => quorum_Newer (c : Int) 0 (a : Int) 0 W)
                  rw [newB_lt] at CN
                  clear hx hbz1 hfl2 ht0 ht1
                  by_cases hca : a < c
                  · have hd : decide (a < c) = true := decide_eq_true hca
                    rw [hd] at CN
                    have HCA := Lib.hid hca
                    clear hca hd
                    go_wp2_with fail
                    (with_reducible refine (CN.out _).mono ?_)
                    rintro e w9 ⟨rfl, hb9⟩
                    have u0 := (hb9.cell (p := ⟨wz.heap.size, 0, none⟩) (show wz.heap.size < (wz.alloc _).heap.size by rw [HSZ1.out]; omega)).trans HN012.out.1
                    have u1 := (hb9.cell (p := ⟨wz.heap.size, 1, none⟩) (show wz.heap.size < (wz.alloc _).heap.size by rw [HSZ1.out]; omega)).trans HN012.out.2.1
                    have u2 := (hb9.cell (p := ⟨wz.heap.size, 2, none⟩) (show wz.heap.size < (wz.alloc _).heap.size by rw [HSZ1.out]; omega)).trans HN012.out.2.2
                    have hbz9 : Below wz.heap.size wz w9 := HBZ1.out.trans (hb9.mono (by rw [HSZ1.out]; omega))
                    have HB9 : Hid (Below gq w7 w9) := Lib.hid (HBq.out.trans (hbz9.mono HZz.out))
                    have HO9 := Lib.hid (own_below HO.out hbz9)
                    clear hb9 hbz9 m0 m1 n0 n1 n2 CN
                    go_wp2_with (first
                      | (at_builtin; go_loud (refine app_one rfl (.tmp 110) (.tmp 112) 45 rfl gq 50 _ 3 32 Try.underlying45 keptInfo _ _ _ (by rfl) HO9.out [.int .i64 (c : Int), .int .i64 0, .string s] (by rfl) rfl (by intro u hu; simp at hu; rcases hu with rfl | rfl | rfl <;> rfl) (by unfold maxLen; omega) (by omega) (Nat.le_trans HZz.out (by have := HB9.out.size; have := HBq.out.size; exact World.block_lt_of_cell? _ _ u0 |> Nat.le_of_lt)) ?_); intro v10 w10 hown10 hgr10 hb10; have HO10 : Hid (w10.ownsRow gq 50 3 v10 (1 + ((L.take (q + 1)).filter (fun x => decide (a < x.1))).length) (kpCells ((a, PC) :: (L.take (q + 1)).filter (fun x => decide (a < x.1))))) := Lib.hid (by rw [HFS.out, if_pos HCA.out, List.length_append, HFL2.out]; rw [← List.cons_append, kpCells_snoc]; exact hown10); have HB10 := Lib.hid (HB9.out.trans hb10); clear hown10 hgr10 hb10)
                      | fail)
                    go_roundw
                    case rel => exact ⟨q + 1, by go_num, by omega, HO10, HB10⟩
                    case measure => simp [intOf]; omega
                  · have hd : decide (a < c) = false := decide_eq_false hca
                    rw [hd] at CN
                    have HCA := Lib.hid hca
                    clear hca hd
                    go_wp2_with fail
                    (with_reducible refine (CN.out _).mono ?_)
                    rintro e w9 ⟨rfl, hb9⟩
                    have hbz9 : Below wz.heap.size wz w9 := HBZ1.out.trans (hb9.mono (by rw [HSZ1.out]; omega))
                    have HB9 : Hid (Below gq w7 w9) := Lib.hid (HBq.out.trans (hbz9.mono HZz.out))
                    have HO9 : Hid (w9.ownsRow gq 50 3 u18 (1 + ((L.take (q + 1)).filter (fun x => decide (a < x.1))).length) (kpCells ((a, PC) :: (L.take (q + 1)).filter (fun x => decide (a < x.1))))) := Lib.hid (by
                      rw [HFS.out, if_neg HCA.out, List.append_nil, HFL2.out]
                      exact own_below HO.out hbz9)
                    clear hb9 hbz9 m0 m1 n0 n1 n2 CN
                    go_wp2_with fail
                    go_roundw
                    case rel => exact ⟨q + 1, by go_num, by omega, HO9, HB9⟩
                    case measure => simp [intOf]; omega
                · obtain rfl : lk = q := by omega
                  have hO := HO.out
                  rw [List.take_of_length_le (by rw [HLK.out]; exact Nat.le_refl _)] at hO
                  obtain ⟨g9, c9, rfl⟩ := own_form hO (by simp [kpCells, kpC])
                  have hbq : base ≤ gq := by rw [← HGQ.out]; exact Nat.le_trans (Nat.le_trans HSj.out.hb (Nat.le_of_lt HSj.out.blt)) HB7.out.size
                  have hge : wq.heap.size ≤ g9 := Nat.le_trans (by rw [← HGQ.out]; exact HB7.out.size) (hO.lt g9 rfl).1
                  have hlen : 1 + (L.filter (fun x => decide (a < x.1))).length = (fixK a PC L).length := by unfold fixK; rw [List.length_cons]; omega
                  have hnew := HSj.out.put_row (l := fixK a PC L) hin hkey (grown_of_below HBz.out (V' i key).ownBlock) (by rw [← hlen]; exact own_mono hO hbq) (.inr ⟨g9, rfl, hge⟩)
                    (by
                      have h1 := HOKj.out.1.fix i key a (p := PC) HA12.out.1 (by rw [HOKj.out.2.1]; exact HA12.out.2) (by rw [← HPCC.out]; exact pcs_size _ _ _ HNS.out hk1)
                      rw [HL.out] at h1
                      exact h1)
                  have xkz := (HBz.out.cell (p := ⟨nb, i * 4 + 1 + key, none⟩) HNL.out).trans HXK.out
                  have fkz := (HBz.out.frozen (p := ⟨nb, i * 4 + 1 + key, none⟩) HNL.out).trans HFK.out
                  have HN1 : Hid (Shf (wz.setCell ⟨nb, i * 4 + 1 + key, none⟩ (.slice (some ⟨g9, 0, none⟩) (1 + (L.filter (fun x => decide (a < x.1))).length) c9)) base Ax n k wr0 r b nb (setV V' i key (.slice (some ⟨g9, 0, none⟩) (1 + (L.filter (fun x => decide (a < x.1))).length) c9)) ((U.take (j + 1)).foldl (fixS k text a key) (st, 0)).1) := Lib.hid (by
                    rw [HFN.out]
                    unfold fixS
                    dsimp only
                    rw [HL.out, HPCC.out]
                    exact hnew.1)
                  have HN2 : Hid (Kept Ax base w5 (wz.setCell ⟨nb, i * 4 + 1 + key, none⟩ (.slice (some ⟨g9, 0, none⟩) (1 + (L.filter (fun x => decide (a < x.1))).length) c9))) := Lib.hid (HKj.out.trans hnew.2)
                  have HMM : Hid (((U.take (j + 1)).foldl (fixS k text a key) (st, 0)).2 = mj + if hasK L a PC then 0 else 1) := Lib.hid (by
                    rw [HFN.out]
                    unfold fixS
                    dsimp only
                    rw [HL.out, HPCC.out])
                  rw [HBV.out] at HMM
                  obtain ⟨nl, hnl2⟩ : ∃ nl, 1 + (L.filter (fun x => decide (a < x.1))).length = nl := ⟨_, rfl⟩
                  rw [hnl2] at HN1 HN2 ⊢
                  clear hnew hO hbq hge hlen HO hnl2
                  go_wp2_with fail
                  go_roundw
                  case rel => first
                    | exact ⟨j + 1, mj, _, by go_num, by omega, rfl, by omega, HMM, HN1, HN2⟩
                    | exact ⟨j + 1, mj + 1, _, by go_num, by omega, by go_num, by omega, HMM, HN1, HN2⟩
                  case measure => simp [intOf]; omega
        · obtain rfl : u = j := by omega
          have r5 := (HKj.out.blk _ HXR.out).trans HR5.out
          have r0 := heap_cell r5 0
          have r1 := heap_cell r5 1
          have r2' := heap_cell r5 2
          have r3 := heap_cell r5 3
          simp only [List.getElem?_toArray, List.getElem?_cons_zero, List.getElem?_cons_succ] at r0 r1 r2' r3
          have f0 := heap_frozen r5 0
          have f1 := heap_frozen r5 1
          have f2 := heap_frozen r5 2
          have f3 := heap_frozen r5 3
          have xt0 := HKj.out.cell HXT.out (o := 0) (c := .int .i64 (a : Int)) (by rw [heap_cell HT5.out]; rfl)
          have xt1 := HKj.out.cell HXT.out (o := 1) (c := .int .i64 0) (by rw [heap_cell HT5.out]; rfl)
          have HD := Lib.hid (done4 HSj.out (HKx.out.trans (HKj.out.narrow HOA.out)) HOA.out HXR.out HAV.out HBS.out (.string text) (.int .i64 (a : Int)) (.int .i64 0) (.int .i64 0))
          have HFU : Hid (U.take u = U) := Lib.hid (List.take_of_length_le (by rw [HUL.out]; exact Nat.le_refl _))
          obtain ⟨tc0, tc1, tc2, tc3⟩ := told_cells r5 (.string text) (.int .i64 (a : Int)) (.int .i64 0) (.int .i64 0)
          clear r5
          go_wp2_with fail
          refine bodyPost_ret (v := .tuple #[.agg #[.string text, .int .i64 (a : Int), .int .i64 0, .int .i64 0], .int .i64 (m : Int), .int .i64 0]) (by simp [results, Try.results21, go_sem, tc0, tc1, tc2, tc3]; try rfl) rfl ?_
          have hM := HM.out
          have hD := HD.out
          rw [HFU.out] at hM hD
          rw [HF.out]
          exact ⟨by rw [← hM]; rfl, hD⟩
end Go.Proofs.Ytioecklnijhjgaa
