/- The reference's DoOf, whatever is asked. (Printed by wip/tools/gen_ref6.py.) -/
import Derived.Test.YtioecklnijhjgaaRef6
import Derived.Test.YtioecklnijhjgaaRef6B
import Derived.Test.YtioecklnijhjgaaRef6C
import Derived.Test.YtioecklnijhjgaaPlM26
import Derived.Test.YtioecklnijhjgaaPlM22
import Derived.Test.YtioecklnijhjgaaPlM25
import Derived.Deep.RegionHeld
set_option linter.unusedVariables false
set_option linter.unusedSimpArgs false
namespace Go.Proofs.Ytioecklnijhjgaa
open Go.RowKit

theorem ref_DoOf {n D k wr0 r : Nat} {All : List It} {st : St} (kind key m : Int) (text : ByteArray) (ht : text.size ≤ 9223372036854775807) (hk1 : 1 ≤ k) (hkn : k ≤ n) (hn : n ≤ 10) (h : Shl n D All st) (ao : Option Addr) (ca : Nat) (w : World) (hR : Reads w ao (itCells All)) (hnone : ao = none → All.length = 0 ∧ ca = 0) :
    Calls Try.prog 9 #[.agg (shC n k wr0 r D st.wr (.slice ao All.length ca)), deedV kind key m text] w (RefPost n k wr0 r ao (doF n k wr0 r st kind key m text) w) := by
  by_cases hbad : kind < 1 ∨ 8 < kind ∨ (keyB kind = true ∧ (key < 0 ∨ 2 < key))
  · exact ref_DoBad kind key m text ht hk1 hkn hn h ao ca w hR hnone hbad
  · have hk : kind = 1 ∨ kind = 2 ∨ kind = 3 ∨ kind = 4 ∨ kind = 5 ∨ kind = 6 ∨ kind = 7 ∨ kind = 8 := by omega
    have hkey : keyB kind = true → ∃ K : Nat, key = K ∧ K < 3 := fun hb => by
      have h2 : ¬ (key < 0 ∨ 2 < key) := fun h3 => hbad (.inr (.inr ⟨hb, h3⟩))
      exact ⟨key.toNat, by omega, by omega⟩
    rcases hk with rfl | rfl | rfl | rfl | rfl | rfl | rfl | rfl
    · obtain ⟨K, rfl, hK3⟩ := hkey rfl
      exact ref_Do1 K hK3 m text ht hk1 hkn hn h ao ca w hR hnone
    · obtain ⟨K, rfl, hK3⟩ := hkey rfl
      exact ref_Do2 K hK3 m text ht hk1 hkn hn h ao ca w hR hnone
    · obtain ⟨K, rfl, hK3⟩ := hkey rfl
      exact ref_Do3 K hK3 m text ht hk1 hkn hn h ao ca w hR hnone
    · exact ref_Do4 key m text ht hk1 hkn hn h ao ca w hR hnone
    · exact ref_Do5 key m text ht hk1 hkn hn h ao ca w hR hnone
    · exact ref_Do6 key m text ht hk1 hkn hn h ao ca w hR hnone
    · obtain ⟨K, rfl, hK3⟩ := hkey rfl
      exact ref_Do7 K hK3 m text ht hk1 hkn hn h ao ca w hR hnone
    · obtain ⟨K, rfl, hK3⟩ := hkey rfl
      exact ref_Do8 K hK3 m text ht hk1 hkn hn h ao ca w hR hnone
end Go.Proofs.Ytioecklnijhjgaa
namespace Go.Proofs.Ytioecklnijhjgaa
open Go.RowKit

abbrev Dd := Int × Int × Int × ByteArray
def ddC (d : Dd) : List Value := [.int .i64 d.1, .int .i64 d.2.1, .int .i64 d.2.2.1, .string d.2.2.2]
def ddCells (l : List Dd) : List Value := l.flatMap ddC
theorem ddCells_get {l : List Dd} {j : Nat} {x : Dd} (h : l[j]? = some x) : ∀ q, q < 4 → (ddCells l)[j * 4 + q]? = (ddC x)[q]? := by
  induction l generalizing j with
  | nil => simp at h
  | cons y t ih =>
    intro q hq
    have e : ddCells (y :: t) = ddC y ++ ddCells t := by simp [ddCells]
    have h4 : (ddC y).length = 4 := rfl
    rw [e]
    cases j with
    | zero =>
      simp at h
      subst h
      rw [List.getElem?_append_left (by rw [h4]; omega)]
      congr 1
      omega
    | succ j =>
      have h2 : t[j]? = some x := by simpa using h
      rw [List.getElem?_append_right (by rw [h4]; omega), h4, show (j + 1) * 4 + q - 4 = j * 4 + q by omega]
      exact ih h2 q hq
theorem dd_cells {w : World} {ao : Option Addr} {l : List Dd} (h : Reads w ao (ddCells l)) {k : Nat} {x : Dd} (hk : l[k]? = some x) :
    ∃ b o, ao = some ⟨b, o, none⟩ ∧ w.cell? ⟨b, o + k * 4, none⟩ = some (.int .i64 x.1) ∧ w.cell? ⟨b, o + k * 4 + 1, none⟩ = some (.int .i64 x.2.1) ∧ w.cell? ⟨b, o + k * 4 + 2, none⟩ = some (.int .i64 x.2.2.1) ∧
      w.cell? ⟨b, o + k * 4 + 3, none⟩ = some (.string x.2.2.2) := by
  have g := ddCells_get hk
  obtain ⟨b, o, rfl, c0⟩ := h (k * 4 + 0) _ (g 0 (by omega))
  obtain ⟨b1, o1, e1, c1⟩ := h (k * 4 + 1) _ (g 1 (by omega))
  obtain ⟨b2, o2, e2, c2⟩ := h (k * 4 + 2) _ (g 2 (by omega))
  obtain ⟨b3, o3, e3, c3⟩ := h (k * 4 + 3) _ (g 3 (by omega))
  cases e1; cases e2; cases e3
  exact ⟨b, o, rfl, c0, by rw [Nat.add_assoc]; exact c1, by rw [Nat.add_assoc]; exact c2, by rw [Nat.add_assoc]; exact c3⟩
def DdIn (w : World) (ao : Option Addr) (n : Nat) (l : List Dd) : Prop := l.length = n ∧ n ≤ 9223372036854775807 ∧ Reads w ao (ddCells l) ∧ ∀ d ∈ l, d.2.2.2.size ≤ 9223372036854775807
theorem Shl0 (n : Nat) : Shl n 0 [] ⟨0, fun _ => false, fun _ _ => []⟩ := by
  refine ⟨fun _ _ _ _ => rfl, fun i _ => ?_, by omega, by simp, Okst.init⟩
  show false = decide (0 / 2 ^ i % 2 = 1)
  simp
theorem rd_kept {Av : Nat → Prop} {base : Nat} {w w' : World} (h : Kept Av base w w') {al : Option Addr} {All : List It} (hA : ∀ a, al = some a → Av a.block) (hR : Reads w al (itCells All)) : Reads w' al (itCells All) := h.reads hA hR
theorem rd7 {w : World} {A : Nat} {ao : Option Addr} {xs : List Value} (h : Reads w ao xs) (hne : ∀ a, ao = some a → a.block ≠ A) (a0 a1 a2 a3 a4 a5 a6 : Value) :
    Reads (((((((w.setCell ⟨A, 0, none⟩ a0).setCell ⟨A, 1, none⟩ a1).setCell ⟨A, 2, none⟩ a2).setCell ⟨A, 3, none⟩ a3).setCell ⟨A, 4, none⟩ a4).setCell ⟨A, 5, none⟩ a5).setCell ⟨A, 6, none⟩ a6) ao xs := by
  intro q x hq
  obtain ⟨b, o, hb, hc⟩ := h q x hq
  exact ⟨b, o, hb, far7 (hne _ hb) hc⟩
theorem Shf.aside7 {w : World} {base : Nat} {Av : Nat → Prop} {n k wr r b nb : Nat} {V : Nat → Nat → Value} {st : St} (h : Shf w base Av n k wr r b nb V st) {R : Nat} (hR : Av R) (a0 a1 a2 a3 a4 a5 a6 : Value) :
    Shf (((((((w.setCell ⟨R, 0, none⟩ a0).setCell ⟨R, 1, none⟩ a1).setCell ⟨R, 2, none⟩ a2).setCell ⟨R, 3, none⟩ a3).setCell ⟨R, 4, none⟩ a4).setCell ⟨R, 5, none⟩ a5).setCell ⟨R, 6, none⟩ a6) base Av n k wr r b nb V st :=
  ((((((h.aside hR 0 a0).aside hR 1 a1).aside hR 2 a2).aside hR 3 a3).aside hR 4 a4).aside hR 5 a5).aside hR 6 a6
theorem heap7 {w : World} {A : Nat} {t : TypeId} {x0 x1 x2 x3 x4 x5 x6 : Value} (hA : w.heap[A]? = some (.cells #[x0, x1, x2, x3, x4, x5, x6] t (0, 0))) (a0 a1 a2 a3 a4 a5 a6 : Value) :
    (((((((w.setCell ⟨A, 0, none⟩ a0).setCell ⟨A, 1, none⟩ a1).setCell ⟨A, 2, none⟩ a2).setCell ⟨A, 3, none⟩ a3).setCell ⟨A, 4, none⟩ a4).setCell ⟨A, 5, none⟩ a5).setCell ⟨A, 6, none⟩ a6).heap[A]? = some (.cells #[a0, a1, a2, a3, a4, a5, a6] t (0, 0)) := by
  rw [heap_set a6 (j := 6) (heap_set a5 (j := 5) (heap_set a4 (j := 4) (heap_set a3 (j := 3) (heap_set a2 (j := 2) (heap_set a1 (j := 1) (heap_set a0 (j := 0) hA))))))]; rfl
end Go.Proofs.Ytioecklnijhjgaa
namespace Go.Proofs.Ytioecklnijhjgaa
open Go.RowKit

theorem putS_dn {a k key : Nat} {text : ByteArray} (U : List Nat) (st : St) : (U.foldl (putS a k text key) st).dn = st.dn := by
  induction U generalizing st with
  | nil => rfl
  | cons i t ih => rw [List.foldl_cons, ih]; rfl
set_option maxRecDepth 100000 in
set_option maxHeartbeats 8000000 in
theorem store_put {w : World} {base : Nat} {Av : Nat → Prop} {n k wr0 r b nb : Nat} {V : Nat → Nat → Value} {st : St} (kind : Int) (key : Nat) (m : Int) (text : ByteArray) (hkey : key < 3) (ht : text.size ≤ 9223372036854775807) (hk1 : 1 ≤ k) (hkn : k ≤ n) (hn : n ≤ 10) (h : Shf w base Av n k wr0 r b nb V st) :
    Calls Try.prog 19 #[.pointer (some ⟨b, 0, none⟩), deedV kind (key : Int) m text] w (DoPost base Av n k wr0 r b nb (putF n k wr0 st key text) w) := by
  obtain ⟨W1, hW1⟩ : ∃ W1, (w.alloc (.cells #[.int .i64 kind, .int .i64 (key : Int), .int .i64 m, .string text] 36)).alloc (.cells #[.string ⟨#[]⟩, .int .i64 0, .int .i64 0, .int .i64 0] 40) = W1 := ⟨_, rfl⟩
  have hb01 : Below w.heap.size w (w.alloc (.cells #[.int .i64 kind, .int .i64 (key : Int), .int .i64 m, .string text] 36)) := below_alloc _ _
  have hb1 : Below w.heap.size w W1 := by rw [← hW1]; exact hb01.alloc (by simp) _
  have hd1 : W1.heap[w.heap.size]? = some (.cells #[.int .i64 kind, .int .i64 (key : Int), .int .i64 m, .string text] 36 (0, 0)) := by
    rw [← hW1]; exact heap_alloc_old _ _ (heap_alloc_new w _)
  have hr1 : W1.heap[w.heap.size + 1]? = some (.cells #[.string ⟨#[]⟩, .int .i64 0, .int .i64 0, .int .i64 0] 40 (0, 0)) := by
    rw [← hW1]; exact heap_new' _ _ _ (by simp)
  have hsz1 : W1.heap.size = w.heap.size + 2 := by rw [← hW1]; simp
  have CS := Lib.hid (store_split text ht hk1 hkn hn (h.below hb1))
  unfold SplPost at CS
  have HS := Lib.hid h
  have HB1 := Lib.hid hb1
  have HD1 := Lib.hid hd1
  have HR1 := Lib.hid hr1
  have HZ1 := Lib.hid hsz1
  obtain ⟨E, hE⟩ : ∃ E, splE n wr0 st text = E := ⟨_, rfl⟩
  have HE := Lib.hid hE
  rw [hE] at CS
  have HW1 := Lib.hid hW1
  have d1 := heap_cell hd1 1
  have d3 := heap_cell hd1 3
  simp only [List.getElem?_toArray, List.getElem?_cons_zero, List.getElem?_cons_succ] at d1 d3
  clear h hb01 hb1 hd1 hr1 hsz1 hE
  go_enter Try.func19, Try.ntmps19
  go_wp2_with fail
  (with_reducible refine CS.out.mono ?_)
  clear hW1
  rintro e w2 (⟨hne, rfl, hb2⟩ | ⟨h0, g, rfl, hown2, hb2⟩)
  · have r2 := (hb2.block (w.heap.size + 1) (by rw [HZ1.out]; omega)).trans HR1.out
    have r0 := heap_cell r2 0
    have r1 := heap_cell r2 1
    have r2' := heap_cell r2 2
    have r3 := heap_cell r2 3
    simp only [List.getElem?_toArray, List.getElem?_cons_zero, List.getElem?_cons_succ] at r0 r1 r2' r3
    have f0 := heap_frozen r2 0
    have f1 := heap_frozen r2 1
    have f2 := heap_frozen r2 2
    have f3 := heap_frozen r2 3
    have t0 : ((E : Int) != 0) = true := by simp; omega
    have HB2 : Hid (Below w.heap.size w w2) := Lib.hid (HB1.out.trans (hb2.mono HB1.out.size))
    have HNE := Lib.hid hne
    have tc := told_cells r2 (.string ⟨#[]⟩) (.int .i64 0) (.int .i64 0) (.int .i64 0)
    have HW := Lib.hid (HS.out.wide HB2.out)
    have HK := Lib.hid (HS.out.kept HB2.out)
    have HAV : Hid (∀ g, Av g → g ≠ w.heap.size + 1) := Lib.hid fun g hg => by have := HS.out.avlt g hg; omega
    have HBS : Hid (base ≤ w.heap.size + 1) := Lib.hid (by have := HS.out.hb; have := HS.out.blt; omega)
    have HRA : Hid (WideA Av w.heap.size w2.heap.size (w.heap.size + 1)) := Lib.hid (WideA.new (by omega) (by have := hb2.size; have := HZ1.out; omega))
    have HD := Lib.hid (done4 HW.out HK.out (fun x hx => WideA.old hx) HRA.out HAV.out HBS.out (.string ⟨#[]⟩) (.int .i64 0) (.int .i64 0) (.int .i64 0))
    obtain ⟨tc0, tc1, tc2, tc3⟩ := tc
    clear r2 hb2 hne
    go_wp2_with fail
    refine bodyPost_ret (v := .tuple #[.agg #[.string ⟨#[]⟩, .int .i64 0, .int .i64 0, .int .i64 0], .int .i64 (E : Nat)]) (by simp [results, Try.results19, go_sem, tc0, tc1, tc2, tc3]; try rfl) rfl ?_
    have hF : putF n k wr0 st key text = (st, Tl.no, E) := by unfold putF; rw [if_pos (by rw [HE.out]; exact HNE.out), HE.out]
    rw [hF]
    exact ⟨rfl, HD.out⟩
  · have HB2 : Hid (Below w.heap.size w w2) := Lib.hid (HB1.out.trans (hb2.mono HB1.out.size))
    have HZ2 : Hid (w.heap.size + 2 ≤ w2.heap.size) := Lib.hid (by have := hb2.size; have := HZ1.out; omega)
    have HW2 := Lib.hid (HS.out.wide HB2.out)
    have HK2 := Lib.hid (HS.out.kept HB2.out)
    have HD2 := Lib.hid ((hb2.block w.heap.size (by rw [HZ1.out]; omega)).trans HD1.out)
    have HR2 := Lib.hid ((hb2.block (w.heap.size + 1) (by rw [HZ1.out]; omega)).trans HR1.out)
    have HP2 := Lib.hid hown2
    have hE0 : splE n wr0 st text = 0 := by rw [HE.out]; exact h0
    obtain ⟨ht60, _, hwr⟩ := splE_zero hE0
    have hP3 := HW2.out.put_wr hwr
    obtain ⟨W3, hW3⟩ : ∃ W3, w2.setCell ⟨b, 5, none⟩ (.int .i64 ((st.wr + 1 : Nat) : Int)) = W3 := ⟨_, rfl⟩
    have c5 := HW2.out.cells.2.2.2.2.2
    have fb5 := HW2.out.frozen 5
    rw [hW3] at hP3
    have x5 := hP3.1.cells.2.2.2.2.2
    have HP3 := Lib.hid hP3
    have HT60 := Lib.hid ht60
    have HOKU := Lib.hid (HS.out.ok.up1 hwr)
    have HWR := Lib.hid hwr
    have HE0 := Lib.hid hE0
    have hw6 := HS.out.ok.w6
    obtain ⟨A, hA⟩ : ∃ A, st.wr + 1 = A := ⟨_, rfl⟩
    have hA6 : A ≤ 1000000 := by omega
    have wadd : ((st.wr : Nat) : Int) + 1 = (A : Int) := by omega
    have x5' : W3.cell? ⟨b, 5, none⟩ = some (.int .i64 (A : Int)) := by rw [x5]; rw [← hA]; rfl
    rw [hA] at hW3
    clear x5 hP3 hE0 hwr hw6 h0 hown2 hb2 HB1 HD1 HR1 CS
    have HS4 := Lib.hid (HP3.out.1.below (below_alloc W3 (.cells #[.int .i64 (A : Int), .int .i64 0] 38)))
    have CU := Lib.hid (store_up hn HS4.out)
    unfold UpPost at CU
    have hups : ups n st.up1 = ups n st := rfl
    rw [hups] at CU
    have HUM : Hid (∀ i, i ∈ ups n st → i < n) := Lib.hid fun i hi => (mem_ups.1 hi).1
    obtain ⟨U, hU⟩ : ∃ U, ups n st = U := ⟨_, rfl⟩
    rw [hU] at CU HUM
    obtain ⟨u, hu⟩ : ∃ u, U.length = u := ⟨_, rfl⟩
    have hul : u ≤ 10 := by have := ups_len n st; rw [hU, hu] at this; omega
    rw [hu] at CU
    have HU := Lib.hid hU
    have HUL := Lib.hid hu
    have HA := Lib.hid hA
    have HW3 := Lib.hid hW3
    clear hups hU hu
    go_wp2_with fail
    (with_reducible refine CU.out.mono ?_)
    rintro e w5 ⟨ao5, cap5, rfl, hown5, hb5⟩
    clear CU hW3 hA wadd
    have hb35 : Below W3.heap.size W3 w5 := (below_alloc W3 (.cells #[.int .i64 (A : Int), .int .i64 0] 38)).trans (hb5.mono (by simp))
    have hsz4 : W3.heap.size < w5.heap.size := by have := hb5.size; simp at this; omega
    have HSx := Lib.hid (HP3.out.1.wide hb35)
    have HKx := Lib.hid (HK2.out.trans ((HP3.out.2.narrow (fun x hx => WideA.old hx)).trans ((HP3.out.1.kept hb35).narrow (fun x hx => WideA.old hx))))
    have ha5 : w5.heap[W3.heap.size]? = some (.cells #[.int .i64 (A : Int), .int .i64 0] 38 (0, 0)) := (hb5.block _ (by simp)).trans (heap_alloc_new W3 _)
    obtain ⟨ao5', cap5', hv, hR5, _, _⟩ := own_reads hown5
    cases hv
    have HAO : Hid (∀ a, ao5 = some a → W3.heap.size ≤ a.block ∧ a.block < w5.heap.size) := Lib.hid fun a ha => by
      have := hown5.lt a.block (by rw [ha]; rfl)
      simp at this
      omega
    have hd5 : w5.heap[w.heap.size]? = some (.cells #[.int .i64 kind, .int .i64 (key : Int), .int .i64 m, .string text] 36 (0, 0)) := (hb35.block _ (HP3.out.1.avlt _ (WideA.new (Nat.le_refl _) (by have := HZ2.out; omega)))).trans ((HP3.out.2.blk _ (WideA.new (Nat.le_refl _) (by have := HZ2.out; omega))).trans HD2.out)
    have hr5 : w5.heap[w.heap.size + 1]? = some (.cells #[.string ⟨#[]⟩, .int .i64 0, .int .i64 0, .int .i64 0] 40 (0, 0)) := (hb35.block _ (HP3.out.1.avlt _ (WideA.new (by omega) (by have := HZ2.out; omega)))).trans ((HP3.out.2.blk _ (WideA.new (by omega) (by have := HZ2.out; omega))).trans HR2.out)
    have hgl := HP2.out.lt
    have hgA : WideA Av w.heap.size w2.heap.size g := WideA.new (by have := HZ1.out; omega) hgl.2
    have hp5 : ∀ i, i < n → w5.cell? ⟨g, i, none⟩ = some (.string (pcs text k i)) := fun i hi => (hb35.cell (p := ⟨g, i, none⟩) (HP3.out.1.avlt _ hgA)).trans (HP3.out.2.cell hgA (HP2.out.cell hi))
    have HD5 := Lib.hid hd5
    have HR5 := Lib.hid hr5
    have HP5 := Lib.hid hp5
    have HA5 := Lib.hid ha5
    have HGA := Lib.hid hgA
    have HRU := Lib.hid hR5
    have HZ5 := Lib.hid hsz4
    have HXA : Hid (WideA (WideA Av w.heap.size w2.heap.size) W3.heap.size w5.heap.size w.heap.size) := Lib.hid (WideA.old (WideA.new (Nat.le_refl _) (by have := HZ2.out; omega)))
    have HXR : Hid (WideA (WideA Av w.heap.size w2.heap.size) W3.heap.size w5.heap.size (w.heap.size + 1)) := Lib.hid (WideA.old (WideA.new (by omega) (by have := HZ2.out; omega)))
    have HXG : Hid (WideA (WideA Av w.heap.size w2.heap.size) W3.heap.size w5.heap.size g) := Lib.hid (WideA.old hgA)
    have HXT : Hid (WideA (WideA Av w.heap.size w2.heap.size) W3.heap.size w5.heap.size W3.heap.size) := Lib.hid (WideA.new (Nat.le_refl _) hsz4)
    have HXU : Hid (∀ a, ao5 = some a → WideA (WideA Av w.heap.size w2.heap.size) W3.heap.size w5.heap.size a.block) := Lib.hid fun a ha => WideA.new (HAO.out a ha).1 (HAO.out a ha).2
    obtain ⟨Ax, hAx⟩ : ∃ Ax, WideA (WideA Av w.heap.size w2.heap.size) W3.heap.size w5.heap.size = Ax := ⟨_, rfl⟩
    have HOA : Hid (∀ x, Av x → Ax x) := Lib.hid fun x hx => hAx ▸ WideA.old (WideA.old hx)
    rw [hAx] at HSx HXA HXR HXG HXT HXU
    clear hd5 hr5 hp5 ha5 hgA hgl hR5 hsz4 hown5 hb5 hb35 hAx HP3 HP2 HD2 HR2 HW2 HK2 HGA HAO HS4
    go_wp2_with fail
    go_loopw [37] (fun vj wr => ∃ (j : Nat) (V' : Nat → Nat → Value), vj = .int .i64 j ∧ j ≤ u ∧ Hid (Shf wr base Ax n k wr0 r b nb V' ((U.take j).foldl (putS A k text key) st.up1)) ∧ Hid (Kept Ax base w5 wr)) (fun vj _ => u - (intOf vj).toNat)
    case atStart => exact ⟨0, V, rfl, by omega, HSx, Lib.hid (Kept.refl _ _ _)⟩
    case round =>
      clear HSx
      obtain ⟨j, V', rfl, hj, HSj, HKj⟩ := hrel
      obtain ⟨wq, rfl⟩ : ∃ wq, wq = wr := ⟨_, rfl⟩
      by_cases hju : j < u
      · obtain ⟨i, hi⟩ : ∃ i, U[j]? = some i := ⟨U[j]'(by rw [HUL.out]; exact hju), List.getElem?_eq_getElem _⟩
        have hin := HUM.out i (List.mem_of_getElem? hi)
        obtain ⟨bu, ou, hra, xu⟩ := (HKj.out.reads HXU.out HRU.out) j _ (placeR_at hi)
        cases hra
        have HF := Lib.hid (foldl_snocN (putS A k text key) st.up1 hi)
        have hS := HSj.out
        have x4 := hS.cells.2.2.2.2.1
        have xk := hS.kpc hin hkey
        have fk := hS.nodes.frozen (i * 4 + 1 + key)
        have xd := HKj.out.cell HXA.out (o := 1) (c := .int .i64 (key : Int)) (by rw [heap_cell HD5.out]; rfl)
        have xt0 := HKj.out.cell HXT.out (o := 0) (c := .int .i64 (A : Int)) (by rw [heap_cell HA5.out]; rfl)
        have xt1 := HKj.out.cell HXT.out (o := 1) (c := .int .i64 0) (by rw [heap_cell HA5.out]; rfl)
        have xp := HKj.out.cell HXG.out (HP5.out i hin)
        obtain ⟨PC, hPC⟩ : ∃ PC, pcs text k i = PC := ⟨_, rfl⟩
        rw [hPC] at xp
        have HPC := Lib.hid hPC
        have i0 : (0 : Int) ≤ (i : Int) := by omega
        have i1 : (i : Int) < (n : Int) := by omega
        have y0 : (0 : Int) ≤ (key : Int) := by omega
        have y1 : (key : Int) < 3 := by omega
        have hnl := hS.nodes.lt.2
        have hba := below_alloc wq (.cells #[.int .i64 (A : Int), .int .i64 0, .string PC] 50)
        have xk2 := (hba.cell (p := ⟨nb, i * 4 + 1 + key, none⟩) hnl).trans xk
        have fk2 := (hba.frozen (p := ⟨nb, i * 4 + 1 + key, none⟩) hnl).trans fk
        have HNE : Hid (b ≠ nb ∧ w.heap.size ≠ nb ∧ W3.heap.size ≠ nb ∧ g ≠ nb) := Lib.hid ⟨hS.nbb, (hS.av _ HXA.out).2.2, (hS.av _ HXT.out).2.2, (hS.av _ HXG.out).2.2⟩
        clear hi hPC hS hba
        go_wp2_with fail
        go_region_held (fun w' => w'.cell? ⟨b, 4, none⟩ = some (.slice (some ⟨nb, 0, none⟩) n n) ∧ w'.cell? ⟨w.heap.size, 1, none⟩ = some (.int .i64 (key : Int)) ∧ w'.cell? ⟨W3.heap.size, 0, none⟩ = some (.int .i64 (A : Int)) ∧ w'.cell? ⟨W3.heap.size, 1, none⟩ = some (.int .i64 0) ∧ w'.cell? ⟨g, i, none⟩ = some (.string PC)) (first | exact ⟨far_alloc HNE.out.1 x4, far_alloc HNE.out.2.1 xd, far_alloc HNE.out.2.2.1 xt0, far_alloc HNE.out.2.2.1 xt1, far_alloc HNE.out.2.2.2 xp⟩ | go_keep) (fail)
        all_goals
          have hnew := HSj.out.put_row hin hkey (grown_alloc wq (.cells #[.int .i64 (A : Int), .int .i64 0, .string PC] 50) (V' i key).ownBlock) (kp_lit wq base A PC (Nat.le_trans HSj.out.hb (Nat.le_of_lt HSj.out.blt))) (.inr ⟨wq.heap.size, rfl, Nat.le_refl _⟩)
            (by
              have h1 := putS_ok (a := A) (k := k) (key := key) HT60.out hk1 (by have := HA.out; omega) (U.take j) st.up1 (HOKU.out) (by rw [← HA.out]; exact Nat.le_refl _)
              exact h1.1.put i key A (by have := HA.out; omega) (by rw [h1.2.1, ← HA.out]; exact Nat.le_refl _) (by rw [← HPC.out]; exact pcs_size _ _ _ HT60.out hk1))
          rw [World.setCell_alloc_past _ _ _ _ hnl] at hnew
          have HN : Hid (∃ V2, Shf ((wq.setCell ⟨nb, i * 4 + 1 + key, none⟩ (.slice (some ⟨wq.heap.size, 0, none⟩) 1 1)).alloc (.cells #[.int .i64 (A : Int), .int .i64 0, .string PC] 50)).drew base Ax n k wr0 r b nb V2 ((U.take (j + 1)).foldl (putS A k text key) st.up1)) := Lib.hid ⟨_, by rw [HF.out]; unfold putS; rw [HPC.out]; exact hnew.1.below (below_drew1 (Below.refl _ _))⟩
          have HK : Hid (Kept Ax base w5 ((wq.setCell ⟨nb, i * 4 + 1 + key, none⟩ (.slice (some ⟨wq.heap.size, 0, none⟩) 1 1)).alloc (.cells #[.int .i64 (A : Int), .int .i64 0, .string PC] 50)).drew) := Lib.hid (HKj.out.trans (hnew.2.trans ⟨below_drew1 (Below.refl _ _), fun _ _ => rfl⟩))
          obtain ⟨V2, hN⟩ := HN.out
          have HN2 := Lib.hid hN
          clear hnew hN
          go_wp2_with fail
          go_roundw
          case rel => exact ⟨j + 1, V2, by go_num, by omega, HN2, HK⟩
          case measure => simp [intOf]; omega
      · obtain rfl : u = j := by omega
        have r5 := (HKj.out.blk _ HXR.out).trans HR5.out
        have r0 := heap_cell r5 0
        have r1 := heap_cell r5 1
        have r2' := heap_cell r5 2
        have r3 := heap_cell r5 3
        simp only [List.getElem?_toArray, List.getElem?_cons_zero, List.getElem?_cons_succ] at r0 r1 r2' r3
        have f0 := heap_frozen r5 0
        have f1 := heap_frozen r5 1
        have f2 := heap_frozen r5 2
        have f3 := heap_frozen r5 3
        have xt0 := HKj.out.cell HXT.out (o := 0) (c := .int .i64 (A : Int)) (by rw [heap_cell HA5.out]; rfl)
        have xt1 := HKj.out.cell HXT.out (o := 1) (c := .int .i64 0) (by rw [heap_cell HA5.out]; rfl)
        have HAV : Hid (∀ g, Av g → g ≠ w.heap.size + 1) := Lib.hid fun g hg => by have := HS.out.avlt g hg; omega
        have HBS : Hid (base ≤ w.heap.size + 1) := Lib.hid (by have := HS.out.hb; have := HS.out.blt; omega)
        have HD := Lib.hid (done4 HSj.out (HKx.out.trans (HKj.out.narrow HOA.out)) HOA.out HXR.out HAV.out HBS.out (.string ⟨#[]⟩) (.int .i64 (A : Int)) (.int .i64 0) (.int .i64 0))
        have HFU : Hid ((U.take u).foldl (putS A k text key) st.up1 = U.foldl (putS A k text key) st.up1) := Lib.hid (by rw [List.take_of_length_le (by rw [HUL.out]; exact Nat.le_refl _)])
        obtain ⟨tc0, tc1, tc2, tc3⟩ := told_cells r5 (.string ⟨#[]⟩) (.int .i64 (A : Int)) (.int .i64 0) (.int .i64 0)
        clear r5
        go_wp2_with fail
        refine bodyPost_ret (v := .tuple #[.agg #[.string ⟨#[]⟩, .int .i64 (A : Int), .int .i64 0, .int .i64 0], .int .i64 0]) (by simp [results, Try.results19, go_sem, tc0, tc1, tc2, tc3]; try rfl) rfl ?_
        have hF : putF n k wr0 st key text = (U.foldl (putS A k text key) st.up1, ⟨ByteArray.empty, A, 0⟩, 0) := by
          unfold putF
          rw [if_neg (by rw [HE0.out]; simp), HA.out, HU.out]
        rw [hF, ← HFU.out]
        exact ⟨rfl, HD.out⟩
end Go.Proofs.Ytioecklnijhjgaa
