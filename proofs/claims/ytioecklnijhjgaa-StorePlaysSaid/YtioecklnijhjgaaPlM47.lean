/- package store: Do. -/
import Derived.Test.YtioecklnijhjgaaPlM46
import Derived.Test.YtioecklnijhjgaaPlM22
import Derived.Test.YtioecklnijhjgaaPlM43
import Derived.Test.YtioecklnijhjgaaStore5
set_option linter.unusedVariables false
set_option linter.unusedSimpArgs false
namespace Go.Proofs.Ytioecklnijhjgaa
open Go.RowKit

/-- What Do has before it asks. -/
structure DoAt (w W1 : World) (base : Nat) (Av : Nat → Prop) (n k wr r b nb : Nat) (V : Nat → Nat → Value) (st : St) (kind key m : Int) (text : ByteArray) : Prop where
  eqn : (w.alloc (.cells #[.int .i64 kind, .int .i64 key, .int .i64 m, .string text] 36)).alloc (.cells #[.string ⟨#[]⟩, .int .i64 0, .int .i64 0, .int .i64 0] 40) = W1
  bel : Below w.heap.size w W1
  d : W1.heap[w.heap.size]? = some (.cells #[.int .i64 kind, .int .i64 key, .int .i64 m, .string text] 36 (0, 0))
  t : W1.heap[w.heap.size + 1]? = some (.cells #[.string ⟨#[]⟩, .int .i64 0, .int .i64 0, .int .i64 0] 40 (0, 0))
  s : Shf W1 base (WideA Av w.heap.size W1.heap.size) n k wr r b nb V st
  kp : Kept Av base w W1
  ra : WideA Av w.heap.size W1.heap.size (w.heap.size + 1)
  rn : ∀ g, Av g → g ≠ w.heap.size + 1
  rb : base ≤ w.heap.size + 1
theorem do_at {w : World} {base : Nat} {Av : Nat → Prop} {n k wr r b nb : Nat} {V : Nat → Nat → Value} {st : St} (h : Shf w base Av n k wr r b nb V st) (kind key m : Int) (text : ByteArray) : ∃ W1, DoAt w W1 base Av n k wr r b nb V st kind key m text := by
  have hb01 : Below w.heap.size w (w.alloc (.cells #[.int .i64 kind, .int .i64 key, .int .i64 m, .string text] 36)) := below_alloc _ _
  have hb : Below w.heap.size w ((w.alloc (.cells #[.int .i64 kind, .int .i64 key, .int .i64 m, .string text] 36)).alloc (.cells #[.string ⟨#[]⟩, .int .i64 0, .int .i64 0, .int .i64 0] 40)) := hb01.alloc (by simp) _
  refine ⟨_, rfl, hb, heap_alloc_old _ _ (heap_alloc_new w _), heap_new' _ _ _ (by simp), h.wide hb, h.kept hb, WideA.new (by omega) (by simp), fun g hg => by have := h.avlt g hg; omega, by have := h.hb; have := h.blt; omega⟩
/-- The store behind the answer's writing. -/
theorem DoAt.done {w W1 w2 : World} {base : Nat} {Av : Nat → Prop} {n k wr r b nb : Nat} {V V2 : Nat → Nat → Value} {st st2 : St} {kind key m : Int} {text : ByteArray} (h : DoAt w W1 base Av n k wr r b nb V st kind key m text)
    (hS : Shf w2 base (WideA Av w.heap.size W1.heap.size) n k wr r b nb V2 st2) (hK : Kept (WideA Av w.heap.size W1.heap.size) base W1 w2) (x0 x1 x2 x3 : Value) :
    ((∃ V', Shf ((((w2.setCell ⟨w.heap.size + 1, 0, none⟩ x0).setCell ⟨w.heap.size + 1, 1, none⟩ x1).setCell ⟨w.heap.size + 1, 2, none⟩ x2).setCell ⟨w.heap.size + 1, 3, none⟩ x3) base Av n k wr r b nb V' st2) ∧ Kept Av base w ((((w2.setCell ⟨w.heap.size + 1, 0, none⟩ x0).setCell ⟨w.heap.size + 1, 1, none⟩ x1).setCell ⟨w.heap.size + 1, 2, none⟩ x2).setCell ⟨w.heap.size + 1, 3, none⟩ x3)) ∧
    w2.heap[w.heap.size + 1]? = some (.cells #[.string ⟨#[]⟩, .int .i64 0, .int .i64 0, .int .i64 0] 40 (0, 0)) :=
  ⟨done4 hS (h.kp.trans (hK.narrow fun x hx => WideA.old hx)) (fun x hx => WideA.old hx) h.ra h.rn h.rb x0 x1 x2 x3, (hK.blk _ h.ra).trans h.t⟩
set_option maxRecDepth 100000 in
set_option maxHeartbeats 4000000 in
theorem store_Do_put {w : World} {base : Nat} {Av : Nat → Prop} {n k wr0 r b nb : Nat} {V : Nat → Nat → Value} {st : St} (key : Nat) (m : Int) (text : ByteArray) (hkey : key < 3) (ht : text.size ≤ 9223372036854775807) (hk1 : 1 ≤ k) (hkn : k ≤ n) (hn : n ≤ 10) (h : Shf w base Av n k wr0 r b nb V st) :
    Calls Try.prog 8 #[.pointer (some ⟨b, 0, none⟩), deedV 1 (key : Int) m text] w (DoPost base Av n k wr0 r b nb (putF n k wr0 st key text) w) := by
  obtain ⟨W1, hd⟩ := do_at h 1 (key : Int) m text
  have HD := Lib.hid hd
  have hW1 := hd.eqn
  have d0 := heap_cell hd.d 0
  have d1 := heap_cell hd.d 1
  have d2 := heap_cell hd.d 2
  have d3 := heap_cell hd.d 3
  simp only [List.getElem?_toArray, List.getElem?_cons_zero, List.getElem?_cons_succ] at d0 d1 d2 d3
  have CK := Lib.hid (fun W => store_isKey (key : Int) W)
  unfold BoolQ at CK
  rw [show (decide (0 ≤ (key : Int)) && decide ((key : Int) < 3)) = true by simp; omega] at CK
  have CP := Lib.hid (store_put 1 key m text hkey ht hk1 hkn hn hd.s)
  unfold DoPost at CP
  obtain ⟨R, hR⟩ : ∃ R, putF n k wr0 st key text = R := ⟨_, rfl⟩
  rw [hR] at CP ⊢
  obtain ⟨st2, ⟨tx, ta, tm⟩, E⟩ := R
  dsimp only at CP
  clear hR hd h
  go_enter Try.func8, Try.ntmps8
  go_wp2_with (go_at_call 18; (with_reducible refine (CK.out _).mono ?_); rintro e w2 ⟨rfl, rfl⟩)
  (with_reducible refine CP.out.mono ?_)
  clear hW1
  rintro e w2 ⟨rfl, ⟨V2, hS2⟩, hK2⟩
  have hdn := HD.out.done hS2 hK2 (.string tx) (.int .i64 (ta : Int)) (.int .i64 0) (.int .i64 (tm : Int))
  have r0 := heap_cell hdn.2 0
  have r1 := heap_cell hdn.2 1
  have r2' := heap_cell hdn.2 2
  have r3 := heap_cell hdn.2 3
  simp only [List.getElem?_toArray, List.getElem?_cons_zero, List.getElem?_cons_succ] at r0 r1 r2' r3
  have f0 := heap_frozen hdn.2 0
  have f1 := heap_frozen hdn.2 1
  have f2 := heap_frozen hdn.2 2
  have f3 := heap_frozen hdn.2 3
  obtain ⟨tc0, tc1, tc2, tc3⟩ := told_cells hdn.2 (.string tx) (.int .i64 (ta : Int)) (.int .i64 0) (.int .i64 (tm : Int))
  have HN := Lib.hid hdn.1
  clear hS2 hK2 hdn
  go_wp2_with fail
  refine bodyPost_ret (v := .tuple #[.agg #[.string tx, .int .i64 (ta : Int), .int .i64 0, .int .i64 (tm : Int)], .int .i64 (E : Nat)]) (by simp [results, Try.results8, go_sem, tc0, tc1, tc2, tc3]; try rfl) rfl ?_
  exact ⟨rfl, HN.out⟩
end Go.Proofs.Ytioecklnijhjgaa
namespace Go.Proofs.Ytioecklnijhjgaa
open Go.RowKit

set_option maxRecDepth 100000 in
set_option maxHeartbeats 4000000 in
theorem store_Do_at {w : World} {base : Nat} {Av : Nat → Prop} {n k wr0 r b nb : Nat} {V : Nat → Nat → Value} {st : St} (kind key m : Int) (text : ByteArray) (hkind : kind = 4 ∨ kind = 5 ∨ kind = 6 ∨ kind = 7) (hkey : kind = 7 → 0 ≤ key ∧ key < 3) (hn : n ≤ 10) (h : Shf w base Av n k wr0 r b nb V st) :
    Calls Try.prog 8 #[.pointer (some ⟨b, 0, none⟩), deedV kind key m text] w (DoPost base Av n k wr0 r b nb ((atF n st kind key.toNat m).1, Tl.no, (atF n st kind key.toNat m).2) w) := by
  obtain ⟨W1, hd⟩ := do_at h kind key m text
  have HD := Lib.hid hd
  have hW1 := hd.eqn
  have d0 := heap_cell hd.d 0
  have d1 := heap_cell hd.d 1
  have d2 := heap_cell hd.d 2
  have d3 := heap_cell hd.d 3
  simp only [List.getElem?_toArray, List.getElem?_cons_zero, List.getElem?_cons_succ] at d0 d1 d2 d3
  have CK : Hid (kind = 7 → ∀ W, Calls Try.prog 18 #[.int .i64 key] W (BoolQ true W)) := Lib.hid (fun hk W => by
    have h1 := hkey hk
    have h2 := store_isKey key W
    rw [show (decide (0 ≤ key) && decide (key < 3)) = true by simp; omega] at h2
    exact h2)
  unfold BoolQ at CK
  have CP := Lib.hid (store_at kind hkind key m text hkey hn hd.s)
  unfold AtPost at CP
  obtain ⟨R, hR⟩ : ∃ R, atF n st kind key.toNat m = R := ⟨_, rfl⟩
  rw [hR] at CP ⊢
  obtain ⟨st2, E⟩ := R
  dsimp only at CP
  have HEND : Hid (∀ w2 V2, Shf w2 base (WideA Av w.heap.size W1.heap.size) n k wr0 r b nb V2 st2 → Kept (WideA Av w.heap.size W1.heap.size) base W1 w2 → (((∃ V', Shf ((((w2.setCell ⟨w.heap.size + 1, 0, none⟩ (.string ⟨#[]⟩)).setCell ⟨w.heap.size + 1, 1, none⟩ (.int .i64 0)).setCell ⟨w.heap.size + 1, 2, none⟩ (.int .i64 0)).setCell ⟨w.heap.size + 1, 3, none⟩ (.int .i64 0)) base Av n k wr0 r b nb V' st2) ∧ Kept Av base w ((((w2.setCell ⟨w.heap.size + 1, 0, none⟩ (.string ⟨#[]⟩)).setCell ⟨w.heap.size + 1, 1, none⟩ (.int .i64 0)).setCell ⟨w.heap.size + 1, 2, none⟩ (.int .i64 0)).setCell ⟨w.heap.size + 1, 3, none⟩ (.int .i64 0))) ∧
      w2.heap[w.heap.size + 1]? = some (.cells #[.string ⟨#[]⟩, .int .i64 0, .int .i64 0, .int .i64 0] 40 (0, 0)))) := Lib.hid (fun w2 V2 h1 h2 => HD.out.done h1 h2 (.string ⟨#[]⟩) (.int .i64 0) (.int .i64 0) (.int .i64 0))
  clear hR hd h hkey
  rcases hkind with rfl | rfl | rfl | rfl
  rotate_left 3
  · have CK7 := Lib.hid (CK.out rfl)
    go_enter Try.func8, Try.ntmps8
    go_wp2_with (go_at_call 18; (with_reducible refine (CK7.out _).mono ?_); rintro e w2 ⟨rfl, rfl⟩)
    (with_reducible refine CP.out.mono ?_)
    clear hW1
    rintro e w2 ⟨rfl, ⟨V2, hS2⟩, hK2⟩
    have hdn := HEND.out w2 V2 hS2 hK2
    have r0 := heap_cell hdn.2 0
    have r1 := heap_cell hdn.2 1
    have r2' := heap_cell hdn.2 2
    have r3 := heap_cell hdn.2 3
    simp only [List.getElem?_toArray, List.getElem?_cons_zero, List.getElem?_cons_succ] at r0 r1 r2' r3
    have f0 := heap_frozen hdn.2 0
    have f1 := heap_frozen hdn.2 1
    have f2 := heap_frozen hdn.2 2
    have f3 := heap_frozen hdn.2 3
    obtain ⟨tc0, tc1, tc2, tc3⟩ := told_cells hdn.2 (.string ⟨#[]⟩) (.int .i64 0) (.int .i64 0) (.int .i64 0)
    have HN := Lib.hid hdn.1
    clear hS2 hK2 hdn
    go_wp2_with fail
    refine bodyPost_ret (v := .tuple #[.agg #[.string ⟨#[]⟩, .int .i64 0, .int .i64 0, .int .i64 0], .int .i64 (E : Nat)]) (by simp [results, Try.results8, go_sem, tc0, tc1, tc2, tc3]; try rfl) rfl ?_
    exact ⟨rfl, HN.out⟩
  all_goals
    go_enter Try.func8, Try.ntmps8
    go_wp2_with fail
    (with_reducible refine CP.out.mono ?_)
    clear hW1
    rintro e w2 ⟨rfl, ⟨V2, hS2⟩, hK2⟩
    have hdn := HEND.out w2 V2 hS2 hK2
    have r0 := heap_cell hdn.2 0
    have r1 := heap_cell hdn.2 1
    have r2' := heap_cell hdn.2 2
    have r3 := heap_cell hdn.2 3
    simp only [List.getElem?_toArray, List.getElem?_cons_zero, List.getElem?_cons_succ] at r0 r1 r2' r3
    have f0 := heap_frozen hdn.2 0
    have f1 := heap_frozen hdn.2 1
    have f2 := heap_frozen hdn.2 2
    have f3 := heap_frozen hdn.2 3
    obtain ⟨tc0, tc1, tc2, tc3⟩ := told_cells hdn.2 (.string ⟨#[]⟩) (.int .i64 0) (.int .i64 0) (.int .i64 0)
    have HN := Lib.hid hdn.1
    clear hS2 hK2 hdn
    go_wp2_with fail
    refine bodyPost_ret (v := .tuple #[.agg #[.string ⟨#[]⟩, .int .i64 0, .int .i64 0, .int .i64 0], .int .i64 (E : Nat)]) (by simp [results, Try.results8, go_sem, tc0, tc1, tc2, tc3]; try rfl) rfl ?_
    exact ⟨rfl, HN.out⟩
end Go.Proofs.Ytioecklnijhjgaa
namespace Go.Proofs.Ytioecklnijhjgaa
open Go.RowKit

theorem Shf.under {w : World} {base : Nat} {Av : Nat → Prop} {n k wr r b nb : Nat} {st : St} (h : ∃ V', Shf w base Av n k wr r b nb V' st) (o : Obj) : ∃ V', Shf (w.alloc o) base Av n k wr r b nb V' st := by
  obtain ⟨V', h⟩ := h
  exact ⟨V', h.below (below_alloc _ _)⟩
theorem Kept.under {w0 w : World} {base : Nat} {Av : Nat → Prop} (h : Kept Av base w0 w) (hb : base ≤ w.heap.size) (hA : ∀ g, Av g → g < w.heap.size) (o : Obj) : Kept Av base w0 (w.alloc o) :=
  h.trans (Kept.of_below (below_alloc _ _) hb hA)
set_option maxRecDepth 100000 in
set_option maxHeartbeats 4000000 in
theorem store_Do_get {w : World} {base : Nat} {Av : Nat → Prop} {n k wr0 r b nb : Nat} {V : Nat → Nat → Value} {st : St} (key : Nat) (m : Int) (text : ByteArray) (hkey : key < 3) (hk1 : 1 ≤ k) (hkn : k ≤ n) (hn : n ≤ 10) (h : Shf w base Av n k wr0 r b nb V st) :
    Calls Try.prog 8 #[.pointer (some ⟨b, 0, none⟩), deedV 3 (key : Int) m text] w (DoPost base Av n k wr0 r b nb ((readF n k wr0 r st key).1, ⟨(readF n k wr0 r st key).2.1.tx, (readF n k wr0 r st key).2.1.at', 0⟩, (readF n k wr0 r st key).2.2) w) := by
  obtain ⟨W1, hd⟩ := do_at h 3 (key : Int) m text
  have HD := Lib.hid hd
  have hW1 := hd.eqn
  have d0 := heap_cell hd.d 0
  have d1 := heap_cell hd.d 1
  have d2 := heap_cell hd.d 2
  have d3 := heap_cell hd.d 3
  simp only [List.getElem?_toArray, List.getElem?_cons_zero, List.getElem?_cons_succ] at d0 d1 d2 d3
  have CK := Lib.hid (fun W => store_isKey (key : Int) W)
  unfold BoolQ at CK
  rw [show (decide (0 ≤ (key : Int)) && decide ((key : Int) < 3)) = true by simp; omega] at CK
  have CP := Lib.hid (store_read key hkey hk1 hkn hn hd.s)
  unfold ReadPost at CP
  obtain ⟨R, hR⟩ : ∃ R, readF n k wr0 r st key = R := ⟨_, rfl⟩
  rw [hR] at CP ⊢
  obtain ⟨st2, ⟨tx, ta, tm⟩, E⟩ := R
  dsimp only at CP ⊢
  clear hR hd h
  go_enter Try.func8, Try.ntmps8
  go_wp2_with (go_at_call 18; (with_reducible refine (CK.out _).mono ?_); rintro e w2 ⟨rfl, rfl⟩)
  (with_reducible refine CP.out.mono ?_)
  clear hW1
  rintro e w2 ⟨rfl, ⟨V2, hS2⟩, hK2⟩
  have hdn := HD.out.done hS2 hK2 (.string tx) (.int .i64 (ta : Int)) (.int .i64 0) (.int .i64 0)
  have hR2 := (Array.getElem?_eq_some_iff.1 hdn.2).1
  have r0 := heap_cell hdn.2 0
  have r1 := heap_cell hdn.2 1
  have r2' := heap_cell hdn.2 2
  have r3 := heap_cell hdn.2 3
  simp only [List.getElem?_toArray, List.getElem?_cons_zero, List.getElem?_cons_succ] at r0 r1 r2' r3
  have f0 := heap_frozen hdn.2 0
  have f1 := heap_frozen hdn.2 1
  have f2 := heap_frozen hdn.2 2
  have f3 := heap_frozen hdn.2 3
  obtain ⟨tc0, tc1, tc2, tc3⟩ := told_cells hdn.2 (.string tx) (.int .i64 (ta : Int)) (.int .i64 0) (.int .i64 0)
  obtain ⟨WR, hWR⟩ : ∃ WR, (((w2.setCell ⟨w.heap.size + 1, 0, none⟩ (.string tx)).setCell ⟨w.heap.size + 1, 1, none⟩ (.int .i64 (ta : Int))).setCell ⟨w.heap.size + 1, 2, none⟩ (.int .i64 0)).setCell ⟨w.heap.size + 1, 3, none⟩ (.int .i64 0) = WR := ⟨_, rfl⟩
  rw [hWR] at tc0 tc1 tc2 tc3 hdn
  have hb := below_alloc WR (.cells #[.string tx, .int .i64 (ta : Int), .int .i64 0, .int .i64 0] 40)
  have e0 := (hb.cell (p := ⟨w.heap.size + 1, 0, none⟩) (World.block_lt_of_cell? _ _ tc0)).trans tc0
  have e1 := (hb.cell (p := ⟨w.heap.size + 1, 1, none⟩) (World.block_lt_of_cell? _ _ tc1)).trans tc1
  have e2 := (hb.cell (p := ⟨w.heap.size + 1, 2, none⟩) (World.block_lt_of_cell? _ _ tc2)).trans tc2
  have e3 := (hb.cell (p := ⟨w.heap.size + 1, 3, none⟩) (World.block_lt_of_cell? _ _ tc3)).trans tc3
  have HN : Hid ((∃ V', Shf (WR.alloc (.cells #[.string tx, .int .i64 (ta : Int), .int .i64 0, .int .i64 0] 40)) base Av n k wr0 r b nb V' st2) ∧ Kept Av base w (WR.alloc (.cells #[.string tx, .int .i64 (ta : Int), .int .i64 0, .int .i64 0] 40))) := Lib.hid (by
    obtain ⟨⟨V', h1⟩, h2⟩ := hdn.1
    exact ⟨Shf.under ⟨V', h1⟩ _, h2.under (Nat.le_trans h1.hb (Nat.le_of_lt h1.blt)) h1.avlt _⟩)
  rw [← hWR] at e0 e1 e2 e3 HN
  clear hS2 hK2 hdn hb tc0 tc1 tc2 tc3 hWR
  go_wp2_with fail
  refine bodyPost_ret (v := .tuple #[.agg #[(.string tx), (.int .i64 (ta : Int)), .int .i64 0, (.int .i64 0)], .int .i64 (E : Nat)]) (by simp [results, Try.results8, go_sem, e0, e1, e2, e3]; try rfl) rfl ?_
  exact ⟨rfl, HN.out⟩
set_option maxRecDepth 100000 in
set_option maxHeartbeats 4000000 in
theorem store_Do_scrub {w : World} {base : Nat} {Av : Nat → Prop} {n k wr0 r b nb : Nat} {V : Nat → Nat → Value} {st : St} (key : Nat) (m : Int) (text : ByteArray) (hkey : key < 3) (hk1 : 1 ≤ k) (hkn : k ≤ n) (hn : n ≤ 10) (h : Shf w base Av n k wr0 r b nb V st) :
    Calls Try.prog 8 #[.pointer (some ⟨b, 0, none⟩), deedV 8 (key : Int) m text] w (DoPost base Av n k wr0 r b nb ((readF n k wr0 r st key).1, ⟨ByteArray.empty, 0, (readF n k wr0 r st key).2.1.mn⟩, (readF n k wr0 r st key).2.2) w) := by
  obtain ⟨W1, hd⟩ := do_at h 8 (key : Int) m text
  have HD := Lib.hid hd
  have hW1 := hd.eqn
  have d0 := heap_cell hd.d 0
  have d1 := heap_cell hd.d 1
  have d2 := heap_cell hd.d 2
  have d3 := heap_cell hd.d 3
  simp only [List.getElem?_toArray, List.getElem?_cons_zero, List.getElem?_cons_succ] at d0 d1 d2 d3
  have CK := Lib.hid (fun W => store_isKey (key : Int) W)
  unfold BoolQ at CK
  rw [show (decide (0 ≤ (key : Int)) && decide ((key : Int) < 3)) = true by simp; omega] at CK
  have CP := Lib.hid (store_read key hkey hk1 hkn hn hd.s)
  unfold ReadPost at CP
  obtain ⟨R, hR⟩ : ∃ R, readF n k wr0 r st key = R := ⟨_, rfl⟩
  rw [hR] at CP ⊢
  obtain ⟨st2, ⟨tx, ta, tm⟩, E⟩ := R
  dsimp only at CP ⊢
  clear hR hd h
  go_enter Try.func8, Try.ntmps8
  go_wp2_with (go_at_call 18; (with_reducible refine (CK.out _).mono ?_); rintro e w2 ⟨rfl, rfl⟩)
  (with_reducible refine CP.out.mono ?_)
  clear hW1
  rintro e w2 ⟨rfl, ⟨V2, hS2⟩, hK2⟩
  have hdn := HD.out.done hS2 hK2 (.string ⟨#[]⟩) (.int .i64 0) (.int .i64 0) (.int .i64 (tm : Int))
  have hR2 := (Array.getElem?_eq_some_iff.1 hdn.2).1
  have r0 := heap_cell hdn.2 0
  have r1 := heap_cell hdn.2 1
  have r2' := heap_cell hdn.2 2
  have r3 := heap_cell hdn.2 3
  simp only [List.getElem?_toArray, List.getElem?_cons_zero, List.getElem?_cons_succ] at r0 r1 r2' r3
  have f0 := heap_frozen hdn.2 0
  have f1 := heap_frozen hdn.2 1
  have f2 := heap_frozen hdn.2 2
  have f3 := heap_frozen hdn.2 3
  obtain ⟨tc0, tc1, tc2, tc3⟩ := told_cells hdn.2 (.string ⟨#[]⟩) (.int .i64 0) (.int .i64 0) (.int .i64 (tm : Int))
  obtain ⟨WR, hWR⟩ : ∃ WR, (((w2.setCell ⟨w.heap.size + 1, 0, none⟩ (.string ⟨#[]⟩)).setCell ⟨w.heap.size + 1, 1, none⟩ (.int .i64 0)).setCell ⟨w.heap.size + 1, 2, none⟩ (.int .i64 0)).setCell ⟨w.heap.size + 1, 3, none⟩ (.int .i64 (tm : Int)) = WR := ⟨_, rfl⟩
  rw [hWR] at tc0 tc1 tc2 tc3 hdn
  have hb := below_alloc WR (.cells #[.string tx, .int .i64 (ta : Int), .int .i64 0, .int .i64 0] 40)
  have e0 := (hb.cell (p := ⟨w.heap.size + 1, 0, none⟩) (World.block_lt_of_cell? _ _ tc0)).trans tc0
  have e1 := (hb.cell (p := ⟨w.heap.size + 1, 1, none⟩) (World.block_lt_of_cell? _ _ tc1)).trans tc1
  have e2 := (hb.cell (p := ⟨w.heap.size + 1, 2, none⟩) (World.block_lt_of_cell? _ _ tc2)).trans tc2
  have e3 := (hb.cell (p := ⟨w.heap.size + 1, 3, none⟩) (World.block_lt_of_cell? _ _ tc3)).trans tc3
  have HN : Hid ((∃ V', Shf (WR.alloc (.cells #[.string tx, .int .i64 (ta : Int), .int .i64 0, .int .i64 0] 40)) base Av n k wr0 r b nb V' st2) ∧ Kept Av base w (WR.alloc (.cells #[.string tx, .int .i64 (ta : Int), .int .i64 0, .int .i64 0] 40))) := Lib.hid (by
    obtain ⟨⟨V', h1⟩, h2⟩ := hdn.1
    exact ⟨Shf.under ⟨V', h1⟩ _, h2.under (Nat.le_trans h1.hb (Nat.le_of_lt h1.blt)) h1.avlt _⟩)
  rw [← hWR] at e0 e1 e2 e3 HN
  clear hS2 hK2 hdn hb tc0 tc1 tc2 tc3 hWR
  go_wp2_with fail
  refine bodyPost_ret (v := .tuple #[.agg #[(.string ⟨#[]⟩), (.int .i64 0), .int .i64 0, (.int .i64 (tm : Int))], .int .i64 (E : Nat)]) (by simp [results, Try.results8, go_sem, e0, e1, e2, e3]; try rfl) rfl ?_
  exact ⟨rfl, HN.out⟩
end Go.Proofs.Ytioecklnijhjgaa
