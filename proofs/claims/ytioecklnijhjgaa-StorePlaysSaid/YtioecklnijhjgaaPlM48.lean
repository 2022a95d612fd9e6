/- package store: Do at torn; Do where it refuses; Do, whatever is asked. -/
import Derived.Test.YtioecklnijhjgaaStore12
import Derived.Test.YtioecklnijhjgaaPlM47
import Derived.Test.YtioecklnijhjgaaPlM22
import Derived.Test.YtioecklnijhjgaaPlM25
import Derived.Test.YtioecklnijhjgaaPlM19
import Derived.Deep.RegionHeld
import Derived.Deep.RegionHeld3
set_option linter.unusedVariables false
set_option linter.unusedSimpArgs false
namespace Go.Proofs.Ytioecklnijhjgaa
open Go.RowKit

set_option maxRecDepth 100000 in
set_option maxHeartbeats 4000000 in
theorem store_Do_torn {w : World} {base : Nat} {Av : Nat → Prop} {n k wr0 r b nb : Nat} {V : Nat → Nat → Value} {st : St} (key : Nat) (m : Int) (text : ByteArray) (hkey : key < 3) (ht : text.size ≤ 9223372036854775807) (hk1 : 1 ≤ k) (hkn : k ≤ n) (hn : n ≤ 10) (h : Shf w base Av n k wr0 r b nb V st) :
    Calls Try.prog 8 #[.pointer (some ⟨b, 0, none⟩), deedV 2 (key : Int) m text] w (DoPost base Av n k wr0 r b nb (tornF n k wr0 st key m text) w) := by
  obtain ⟨W1, hd⟩ := do_at h 2 (key : Int) m text
  have HD := Lib.hid hd
  have hW1 := hd.eqn
  have d0 := heap_cell hd.d 0
  have d1 := heap_cell hd.d 1
  have d2 := heap_cell hd.d 2
  have d3 := heap_cell hd.d 3
  simp only [List.getElem?_toArray, List.getElem?_cons_zero, List.getElem?_cons_succ] at d0 d1 d2 d3
  have CK := Lib.hid (fun W => store_isKey (key : Int) W)
  unfold BoolQ at CK
  rw [show (decide (0 ≤ (key : Int)) && decide ((key : Int) < 3)) = true by simp; omega] at CK
  have CP := Lib.hid (store_torn 2 key m text hkey ht hk1 hkn hn hd.s)
  unfold DoPost at CP
  obtain ⟨R, hR⟩ : ∃ R, tornF n k wr0 st key m text = R := ⟨_, rfl⟩
  rw [hR] at CP ⊢
  obtain ⟨st2, ⟨tx, ta, tm⟩, E⟩ := R
  dsimp only at CP
  clear hR hd h
  go_enter Try.func8, Try.ntmps8
  go_wp2_with (go_at_call 18; (with_reducible refine (CK.out _).mono ?_); rintro e w2 ⟨rfl, rfl⟩)
  (with_reducible refine CP.out.mono ?_)
  clear hW1
  rintro e w2 ⟨rfl, ⟨V2, hS2⟩, hK2⟩
  have hdn := HD.out.done hS2 hK2 (.string tx) (.int .i64 (ta : Int)) (.int .i64 0) (.int .i64 (tm : Int))
  have r0 := heap_cell hdn.2 0
  have r1 := heap_cell hdn.2 1
  have r2' := heap_cell hdn.2 2
  have r3 := heap_cell hdn.2 3
  simp only [List.getElem?_toArray, List.getElem?_cons_zero, List.getElem?_cons_succ] at r0 r1 r2' r3
  have f0 := heap_frozen hdn.2 0
  have f1 := heap_frozen hdn.2 1
  have f2 := heap_frozen hdn.2 2
  have f3 := heap_frozen hdn.2 3
  obtain ⟨tc0, tc1, tc2, tc3⟩ := told_cells hdn.2 (.string tx) (.int .i64 (ta : Int)) (.int .i64 0) (.int .i64 (tm : Int))
  have HN := Lib.hid hdn.1
  clear hS2 hK2 hdn
  go_wp2_with fail
  refine bodyPost_ret (v := .tuple #[.agg #[.string tx, .int .i64 (ta : Int), .int .i64 0, .int .i64 (tm : Int)], .int .i64 (E : Nat)]) (by simp [results, Try.results8, go_sem, tc0, tc1, tc2, tc3]; try rfl) rfl ?_
  exact ⟨rfl, HN.out⟩
set_option maxRecDepth 100000 in
set_option maxHeartbeats 4000000 in
theorem store_Do_bad {w : World} {base : Nat} {Av : Nat → Prop} {n k wr0 r b nb : Nat} {V : Nat → Nat → Value} {st : St} (kind key m : Int) (text : ByteArray) (hbad : kind < 1 ∨ 8 < kind ∨ (keyedB kind = true ∧ (key < 0 ∨ 2 < key))) (h : Shf w base Av n k wr0 r b nb V st) :
    Calls Try.prog 8 #[.pointer (some ⟨b, 0, none⟩), deedV kind key m text] w (DoPost base Av n k wr0 r b nb (st, Tl.no, 1) w) := by
  obtain ⟨W1, hd⟩ := do_at h kind key m text
  have HD := Lib.hid hd
  have hW1 := hd.eqn
  have d0 := heap_cell hd.d 0
  have d1 := heap_cell hd.d 1
  have d2 := heap_cell hd.d 2
  have d3 := heap_cell hd.d 3
  simp only [List.getElem?_toArray, List.getElem?_cons_zero, List.getElem?_cons_succ] at d0 d1 d2 d3
  have hdn := HD.out.done hd.s (Kept.refl _ _ _) (.string ⟨#[]⟩) (.int .i64 0) (.int .i64 0) (.int .i64 0)
  have r0 := heap_cell hdn.2 0
  have r1 := heap_cell hdn.2 1
  have r2' := heap_cell hdn.2 2
  have r3 := heap_cell hdn.2 3
  simp only [List.getElem?_toArray, List.getElem?_cons_zero, List.getElem?_cons_succ] at r0 r1 r2' r3
  have f0 := heap_frozen hdn.2 0
  have f1 := heap_frozen hdn.2 1
  have f2 := heap_frozen hdn.2 2
  have f3 := heap_frozen hdn.2 3
  obtain ⟨tc0, tc1, tc2, tc3⟩ := told_cells hdn.2 (.string ⟨#[]⟩) (.int .i64 0) (.int .i64 0) (.int .i64 0)
  have HN := Lib.hid hdn.1
  have CK : Hid (key < 0 ∨ 2 < key → ∀ W, Calls Try.prog 18 #[.int .i64 key] W (BoolQ false W)) := Lib.hid (fun hk W => by
    have h2 := store_isKey key W
    rw [show (decide (0 ≤ key) && decide (key < 3)) = false by simp; omega] at h2
    exact h2)
  unfold BoolQ at CK
  clear hd h hdn
  by_cases g1 : kind < 1
  · have t1 : decide (kind < 1) = true := decide_eq_true g1
    have t2 : decide (kind ≤ 3) = true := decide_eq_true (by omega)
    clear g1 hbad
    go_enter Try.func8, Try.ntmps8
    go_wp2_with fail
    refine bodyPost_ret (v := .tuple #[.agg #[.string ⟨#[]⟩, .int .i64 0, .int .i64 0, .int .i64 0], .int .i64 1]) (by simp [results, Try.results8, go_sem, tc0, tc1, tc2, tc3]; try rfl) rfl ?_
    exact ⟨rfl, HN.out⟩
  by_cases g2 : 8 < kind
  · have t1 : decide (kind < 1) = false := decide_eq_false g1
    have t2 : decide (kind ≤ 3) = false := decide_eq_false (by omega)
    have t3 : (kind == 8) = false := by simp; omega
    have t4 : (kind == 7) = false := by simp; omega
    have t5 : decide (8 < kind) = true := decide_eq_true g2
    clear g1 g2 hbad
    go_enter Try.func8, Try.ntmps8
    go_wp2_with fail
    refine bodyPost_ret (v := .tuple #[.agg #[.string ⟨#[]⟩, .int .i64 0, .int .i64 0, .int .i64 0], .int .i64 1]) (by simp [results, Try.results8, go_sem, tc0, tc1, tc2, tc3]; try rfl) rfl ?_
    exact ⟨rfl, HN.out⟩
  have hkk : kind = 1 ∨ kind = 2 ∨ kind = 3 ∨ kind = 7 ∨ kind = 8 := by
    rcases hbad with h | h | ⟨h, _⟩
    · omega
    · omega
    · unfold keyedB at h
      simp at h
      omega
  have hkey : key < 0 ∨ 2 < key := by
    rcases hbad with h | h | ⟨_, h⟩
    · omega
    · omega
    · exact h
  have CKK := Lib.hid (CK.out hkey)
  clear g1 g2 hbad hkey CK
  rcases hkk with rfl | rfl | rfl | rfl | rfl
  all_goals
    go_enter Try.func8, Try.ntmps8
    go_wp2_with (go_at_call 18; (with_reducible refine (CKK.out _).mono ?_); rintro e w2 ⟨rfl, rfl⟩)
    refine bodyPost_ret (v := .tuple #[.agg #[.string ⟨#[]⟩, .int .i64 0, .int .i64 0, .int .i64 0], .int .i64 1]) (by simp [results, Try.results8, go_sem, tc0, tc1, tc2, tc3]; try rfl) rfl ?_
    exact ⟨rfl, HN.out⟩
/-- Do, whatever is asked. -/
theorem store_Do {w : World} {base : Nat} {Av : Nat → Prop} {n k wr0 r b nb : Nat} {V : Nat → Nat → Value} {st : St} (kind key m : Int) (text : ByteArray) (ht : text.size ≤ 9223372036854775807) (hk1 : 1 ≤ k) (hkn : k ≤ n) (hn : n ≤ 10) (h : Shf w base Av n k wr0 r b nb V st) :
    Calls Try.prog 8 #[.pointer (some ⟨b, 0, none⟩), deedV kind key m text] w (DoPost base Av n k wr0 r b nb (doF n k wr0 r st kind key m text) w) := by
  unfold doF
  by_cases h0 : kind < 1 ∨ 8 < kind ∨ (keyedB kind = true ∧ (key < 0 ∨ 2 < key))
  · rw [if_pos h0]; exact store_Do_bad kind key m text h0 h
  · rw [if_neg h0]
    have hkey : kind = 1 ∨ kind = 2 ∨ kind = 3 ∨ kind = 7 ∨ kind = 8 → ∃ q : Nat, key = q ∧ q < 3 := by
      intro hk
      have h1 : ¬ (key < 0 ∨ 2 < key) := fun h2 => h0 (.inr (.inr ⟨by unfold keyedB; simp; omega, h2⟩))
      exact ⟨key.toNat, by omega, by omega⟩
    by_cases k1 : kind = 1
    · subst k1
      obtain ⟨q, rfl, hq⟩ := hkey (by omega)
      rw [if_pos rfl, Int.toNat_natCast]
      exact store_Do_put q m text hq ht hk1 hkn hn h
    · rw [if_neg k1]
      by_cases k2 : kind = 2
      · subst k2
        obtain ⟨q, rfl, hq⟩ := hkey (by omega)
        rw [if_pos rfl, Int.toNat_natCast]
        exact store_Do_torn q m text hq ht hk1 hkn hn h
      · rw [if_neg k2]
        by_cases k3 : kind = 3
        · subst k3
          obtain ⟨q, rfl, hq⟩ := hkey (by omega)
          rw [if_pos rfl, Int.toNat_natCast]
          exact store_Do_get q m text hq hk1 hkn hn h
        · rw [if_neg k3]
          by_cases k8 : kind = 8
          · subst k8
            obtain ⟨q, rfl, hq⟩ := hkey (by omega)
            rw [if_pos rfl, Int.toNat_natCast]
            exact store_Do_scrub q m text hq hk1 hkn hn h
          · rw [if_neg k8]
            exact store_Do_at kind key m text (by omega) (fun h7 => by obtain ⟨q, rfl, hq⟩ := hkey (by omega); omega) hn h
end Go.Proofs.Ytioecklnijhjgaa
namespace Go.Proofs.Ytioecklnijhjgaa
open Go.RowKit

def St0 : St := ⟨0, fun _ => false, fun _ _ => []⟩
theorem node_zero (n : Nat) : (madeCells (Value.agg #[.bool false, .slice none 0 0, .slice none 0 0, .slice none 0 0]).cells (n * 4)).toList = rowF (n * 4) (nodeF (fun _ => false) (fun _ _ => .slice none 0 0)) := by
  have hz : (Value.agg #[.bool false, .slice none 0 0, .slice none 0 0, .slice none 0 0]).cells = #[Value.bool false, .slice none 0 0, .slice none 0 0, .slice none 0 0] := by rfl
  rw [hz]
  apply List.ext_getElem?
  intro j
  by_cases hj : j < n * 4
  · rw [rowF_get _ hj]
    unfold nodeF
    have hm : j % 4 = 0 ∨ j % 4 = 1 ∨ j % 4 = 2 ∨ j % 4 = 3 := by omega
    rcases hm with hm | hm | hm | hm <;> simp [madeCells, hj, hm]
  · rw [List.getElem?_eq_none (by simp [madeCells]; omega), List.getElem?_eq_none (by rw [rowF_length]; omega)]
def NewSt (base : Nat) (Av : Nat → Prop) (n k wr r : Nat) (w : World) (e : Ending) (w' : World) : Prop :=
  ∃ b nb V, e = .returned (.tuple #[.pointer (some ⟨b, 0, none⟩), .int .i64 0]) ∧ Shf w' base Av n k wr r b nb V St0 ∧ Below w.heap.size w w'
def NewBad (E : Int) (w : World) (e : Ending) (w' : World) : Prop := e = .returned (.tuple #[.pointer none, .int .i64 E]) ∧ Below w.heap.size w w'
set_option maxRecDepth 100000 in
set_option maxHeartbeats 2000000 in
theorem store_New_bad (n k wr r : Int) (w : World) (hq : qErr n k wr r ≠ 0) :
    Calls Try.prog 5 #[qV n k wr r] w (NewBad (qErr n k wr r) w) := by
  have hb1 := Lib.hid (below_alloc w (.cells #[.int .i64 n, .int .i64 k, .int .i64 wr, .int .i64 r] 23))
  have CQ := Lib.hid (fun W => quorum_Check n k wr r W)
  obtain ⟨E, hE⟩ : ∃ E, qErr n k wr r = E := ⟨_, rfl⟩
  rw [hE] at CQ hq ⊢
  have t0 : (E != 0) = true := by simp; exact hq
  clear hE hq
  go_enter Try.func5, Try.ntmps5
  go_wp2_with fail
  (with_reducible refine (CQ.out _).mono ?_)
  rintro e w2 ⟨rfl, hb2⟩
  have HB2 := Lib.hid (hb1.out.trans (hb2.mono hb1.out.size))
  clear hb2
  go_wp2_with fail
  go_ret2
  exact ⟨rfl, HB2.out⟩
set_option maxRecDepth 100000 in
set_option maxHeartbeats 2000000 in
theorem store_New (n k wr r : Nat) (base : Nat) (Av : Nat → Prop) (w : World) (hq : qErr n k wr r = 0) (hn : n ≤ 10) (hb : base ≤ w.heap.size) (hav : ∀ g, Av g → g < w.heap.size) :
    Calls Try.prog 5 #[qV n k wr r] w (NewSt base Av n k wr r w) := by
  have hb1 := below_alloc w (.cells #[.int .i64 (n : Int), .int .i64 k, .int .i64 wr, .int .i64 r] 23)
  have HB1 := Lib.hid hb1
  have CQ := Lib.hid (fun W => quorum_Check n k wr r W)
  rw [hq] at CQ
  obtain ⟨MC, hMC⟩ : ∃ MC, madeCells (Value.agg #[.bool false, .slice none 0 0, .slice none 0 0, .slice none 0 0]).cells (n * 4) = MC := ⟨_, rfl⟩
  have hrow := node_zero n
  rw [hMC] at hrow
  have MK : ∀ W : World, (Instr.makeSlice 60 (.int .i64 (n : Int)) (.int .i64 (n : Int))).run Try.prog W = .ok (.slice (some ⟨W.heap.size, 0, none⟩) n n) (W.alloc (.cells MC 77)) := by
    intro W
    obtain ⟨i, hi, hz, hsize, hby, hzs, hsz⟩ := nodeInfo
    have h := run_make (P := Try.prog) W 60 77 i _ Try.underlying60 hi hz .i64 .i64 (n : Int) (n : Int) (by omega) (Int.le_refl _) (by rw [hby]; omega) (by omega)
    rw [h, hsize]
    rw [← hMC]
    simp
  have HROW := Lib.hid hrow
  have HAV := Lib.hid hav
  have HBS := Lib.hid hb
  clear hq hMC hrow hav hb hb1
  go_enter Try.func5, Try.ntmps5
  go_wp2_with fail
  (with_reducible refine (CQ.out _).mono ?_)
  rintro e w2 ⟨rfl, hb2⟩
  have hl : w.heap.size < (w.alloc (.cells #[.int .i64 (n : Int), .int .i64 k, .int .i64 wr, .int .i64 r] 23)).heap.size := by simp
  have h2 := (hb2.block w.heap.size hl).trans (heap_alloc_new w _)
  have q0 := heap_cell h2 0
  have q1 := heap_cell h2 1
  have q2 := heap_cell h2 2
  have q3 := heap_cell h2 3
  simp only [List.getElem?_toArray, List.getElem?_cons_zero, List.getElem?_cons_succ] at q0 q1 q2 q3
  have HB2 : Hid (Below w.heap.size w w2) := Lib.hid (HB1.out.trans (hb2.mono HB1.out.size))
  clear hb2 h2 hl CQ
  go_wp2_with fail
  go_region_held (fun w' => w'.cell? ⟨w.heap.size, 0, none⟩ = some (.int .i64 (n : Int)) ∧ w'.cell? ⟨w.heap.size, 1, none⟩ = some (.int .i64 (k : Int)) ∧ w'.cell? ⟨w.heap.size, 2, none⟩ = some (.int .i64 (wr : Int)) ∧ w'.cell? ⟨w.heap.size, 3, none⟩ = some (.int .i64 (r : Int))) (go_keep) (fail)
  all_goals
    go_wp2_with fail
    go_ret2
    refine ⟨w2.heap.size + 1, w2.heap.size, fun _ _ => .slice none 0 0, rfl, ?_, ?_⟩
    · refine ⟨?_, ?_, ?_, ?_, ?_, ?_, ?_, ?_, ?_, Okst.init⟩
      · have := HB2.out.size; have := HBS.out; omega
      · exact heap_new' _ _ _ (by simp)
      · have hms : MC.size = n * 4 := by
          have := congrArg List.length HROW.out
          rw [rowF_length] at this
          simpa using this
        refine ⟨by rw [rowF_length, Nat.mul_one], .inr ⟨w2.heap.size, n * 4, MC, rfl, ?_, heap_alloc_old _ _ (heap_alloc_new w2 _), Nat.le_refl _, by unfold maxLen; omega, by rw [Nat.mul_one]; exact hms, ?_⟩⟩
        · have := HB2.out.size; have := HBS.out; omega
        · rw [Nat.mul_one, HROW.out, List.take_of_length_le (by rw [rowF_length]; omega)]; rfl
      · intro i key _ _; exact World.ownsRow_nil _ _ _ _
      · intro i key j key' _ _ _ _ _ g hg; cases hg
      · intro i key _ _; exact ⟨(by intro e; cases e), (by intro e; cases e)⟩
      · omega
      · intro g hg
        have h1 := HAV.out g hg
        have h2 := HB2.out.size
        refine ⟨?_, by omega, by omega⟩
        show g < ((w2.alloc _).alloc _).heap.size
        simp
        omega
      · intro i key g _ _ hg; cases hg
    · exact below_drew1 ((HB2.out.alloc HB2.out.size _).alloc (by have := HB2.out.size; simp; omega) _)
/-- slices.Clone at what is kept. -/
def CloneK (base : Nat) (l : List Kp) (n : Nat) (w : World) (e : Ending) (w' : World) : Prop :=
  ∃ ao cap, e = .returned (.slice ao n cap) ∧ w'.ownsRow base 50 3 (.slice ao n cap) n (kpCells l) ∧ Below base w w'
set_option maxHeartbeats 1000000 in
set_option maxRecDepth 20000 in
theorem clone_kept (l : List Kp) (n : Nat) (ao : Option Addr) (cap base : Nat) (w : World) (hn : n ≤ 1000000) (hl : l.length = n) (hnone : ao = none → n = 0 ∧ cap = 0) (hR : Hid (Reads w ao (kpCells l))) (hb : base ≤ w.heap.size) :
    Calls Try.prog 29 #[.slice ao n cap] w (CloneK base l n w) := by
  have HL : Hid ((kpCells l).length = n * 3) := Lib.hid (by rw [kpCells_len, hl])
  have H1 : Hid (∀ u ∈ kpCells l, u.oneCell' = true) := Lib.hid (kpCells_one l)
  cases ao with
  | none =>
    obtain ⟨rfl, rfl⟩ := hnone rfl
    have hx : Hid (kpCells l = []) := Lib.hid (List.eq_nil_of_length_eq_zero (by rw [HL.out]))
    have heq := Lib.run_eql_slice_nil (P := Try.prog) w 45 50 none 0 0 0 0 Try.underlying45
    clear hl hnone
    go_enter Try.func29, Try.ntmps29
    go_wp2_with fail
    go_ret
    refine ⟨none, 0, rfl, ?_, Below.refl _ _⟩
    rw [hx.out]; exact World.ownsRow_nil _ _ _ _
  | some a =>
    have heq := Lib.run_eql_slice_nil (P := Try.prog) w 45 50 (some a) n cap 0 0 Try.underlying45
    clear hl hnone
    have hown : Hid ((w.alloc (.cells #[] 50)).ownsRow base 50 3 (.slice (some ⟨w.heap.size, 0, none⟩) 0 0) 0 []) := Lib.hid ⟨rfl, .inr ⟨w.heap.size, 0, #[], rfl, hb, heap_alloc_new w _, Nat.le_refl _, by unfold maxLen; omega, rfl, rfl⟩⟩
    have hR2 : Hid (Reads (w.alloc (.cells #[] 50)) (some a) (kpCells l)) := Lib.hid (hR.out.alloc _)
    have hbel : Hid (Below base w (w.alloc (.cells #[] 50))) := Lib.hid ((Below.refl _ _).alloc hb _)
    go_enter Try.func29, Try.ntmps29
    go_wp2_with (at_builtin; go_must (refine app_all rfl (.tmp 5) (.tmp 6) _ rfl base 50 _ 3 32 Try.underlying45 keptInfo _ 0 [] (by rfl) hown.out (some a) n cap (kpCells l) (by rfl) (fun h => by cases h) HL.out hR2.out H1.out (by unfold maxLen; omega) (by omega) (Nat.le_trans hb hbel.out.size) ?_); intro v2 w2 hown2 hgr2 hb2)
    have hown3 : w2.ownsRow base 50 3 v2 n (kpCells l) := by simpa using hown2
    obtain ⟨ao2, c2, rfl, _, _, _⟩ := own_reads hown3
    have HO := Lib.hid hown3
    have HB := Lib.hid hb2
    clear hown2 hgr2 hb2 hown3
    go_wp2_with fail
    go_ret
    exact ⟨ao2, c2, rfl, HO.out, hbel.out.trans HB.out⟩
def LookPost (l : List Kp) (d : Bool) (w : World) (e : Ending) (w' : World) : Prop :=
  ∃ ao cap, e = .returned (.tuple #[.slice ao l.length cap, .bool (!d), .int .i64 0]) ∧ w'.ownsRow w.heap.size 50 3 (.slice ao l.length cap) l.length (kpCells l) ∧ Below w.heap.size w w'
def LookBad (w : World) (e : Ending) (w' : World) : Prop := e = .returned (.tuple #[.slice none 0 0, .bool false, .int .i64 1]) ∧ w' = w
set_option maxRecDepth 100000 in
set_option maxHeartbeats 2000000 in
theorem store_Look_bad {w : World} {base : Nat} {Av : Nat → Prop} {n k wr r b nb : Nat} {V : Nat → Nat → Value} {st : St} (i key : Int) (hbad : i < 0 ∨ (n : Int) ≤ i ∨ key < 0 ∨ 3 ≤ key) (h : Shf w base Av n k wr r b nb V st) :
    Calls Try.prog 10 #[.pointer (some ⟨b, 0, none⟩), .int .i64 i, .int .i64 key] w (LookBad w) := by
  have CI := Lib.hid (store_isNode i h.cells.2.2.2.2.1)
  have CK := Lib.hid (fun W => store_isKey key W)
  unfold BoolQ at CI CK
  clear h
  by_cases g : i < 0 ∨ (n : Int) ≤ i
  · have hI : (decide (0 ≤ i) && decide (i < (n : Int))) = false := by simp; omega
    rw [hI] at CI
    clear g hI hbad CK
    go_enter Try.func10, Try.ntmps10
    go_wp2_with (go_at_call 28; (with_reducible refine CI.out.mono ?_); rintro e w2 ⟨rfl, rfl⟩)
    go_ret3
    exact ⟨rfl, rfl⟩
  · have hI : (decide (0 ≤ i) && decide (i < (n : Int))) = true := by simp; omega
    have hK : (decide (0 ≤ key) && decide (key < 3)) = false := by simp; omega
    rw [hI] at CI
    rw [hK] at CK
    clear g hI hK hbad
    go_enter Try.func10, Try.ntmps10
    go_wp2_with (first | (go_at_call 28; (with_reducible refine CI.out.mono ?_); rintro e w2 ⟨rfl, rfl⟩) | (go_at_call 18; (with_reducible refine (CK.out _).mono ?_); rintro e w2 ⟨rfl, rfl⟩))
    go_ret3
    exact ⟨rfl, rfl⟩
set_option maxRecDepth 100000 in
set_option maxHeartbeats 2000000 in
theorem store_Look {w : World} {base : Nat} {Av : Nat → Prop} {n k wr r b nb : Nat} {V : Nat → Nat → Value} {st : St} (i key : Nat) (hi : i < n) (hk : key < 3) (hn : n ≤ 10) (h : Shf w base Av n k wr r b nb V st) :
    Calls Try.prog 10 #[.pointer (some ⟨b, 0, none⟩), .int .i64 (i : Int), .int .i64 (key : Int)] w (LookPost (st.kp i key) (st.dn i) w) := by
  have x4 := h.cells.2.2.2.2.1
  have CI := Lib.hid (store_isNode (i : Int) x4)
  have CK := Lib.hid (fun W => store_isKey (key : Int) W)
  unfold BoolQ at CI CK
  rw [show (decide (0 ≤ (i : Int)) && decide ((i : Int) < (n : Int))) = true by simp; omega] at CI
  rw [show (decide (0 ≤ (key : Int)) && decide ((key : Int) < 3)) = true by simp; omega] at CK
  obtain ⟨ak, ck, hvk, hRk, hnk⟩ := h.reads hi hk
  have xk := h.kpc hi hk
  rw [hvk] at xk
  have xd := h.dnc hi
  have hl6 := h.ok.len i key
  have HLT : Hid (b < w.heap.size ∧ nb < w.heap.size) := Lib.hid ⟨h.blt, h.nodes.lt.2⟩
  obtain ⟨L, hL⟩ : ∃ L, st.kp i key = L := ⟨_, rfl⟩
  rw [hL] at hvk hRk hnk xk hl6 ⊢
  obtain ⟨d, hd⟩ : ∃ d, st.dn i = d := ⟨_, rfl⟩
  rw [hd] at xd ⊢
  obtain ⟨lk, hlk⟩ : ∃ lk, L.length = lk := ⟨_, rfl⟩
  have CC : Hid (∀ W, Below w.heap.size w W → Calls Try.prog 29 #[.slice ak lk ck] W (CloneK w.heap.size L lk W)) := Lib.hid fun W hb => clone_kept L lk ak ck w.heap.size W (by omega) hlk (by rw [hlk] at hnk; exact hnk) (Lib.hid (hRk.below hb)) hb.size
  unfold CloneK at CC
  rw [hlk] at xk
  have HLK := Lib.hid hlk
  have i0 : (0 : Int) ≤ (i : Int) := by omega
  have i1 : (i : Int) < (n : Int) := by omega
  have y0 : (0 : Int) ≤ (key : Int) := by omega
  have y1 : (key : Int) < 3 := by omega
  clear h hvk hRk hnk hL hd hlk
  go_enter Try.func10, Try.ntmps10
  go_wp2_with (first | (go_at_call 28; (with_reducible refine CI.out.mono ?_); rintro e w2 ⟨rfl, rfl⟩) | (go_at_call 18; (with_reducible refine (CK.out _).mono ?_); rintro e w2 ⟨rfl, rfl⟩))
  go_region_held3 (fun w' => w'.cell? ⟨b, 4, none⟩ = some (.slice (some ⟨nb, 0, none⟩) n n) ∧ w'.cell? ⟨nb, i * 4 + 1 + key, none⟩ = some (.slice ak lk ck) ∧ w'.cell? ⟨nb, i * 4, none⟩ = some (.bool d)) (first | exact ⟨(hb5.cell (p := ⟨b, 4, none⟩) HLT.out.1).trans x4, (hb5.cell (p := ⟨nb, i * 4 + 1 + key, none⟩) HLT.out.2).trans xk, (hb5.cell (p := ⟨nb, i * 4, none⟩) HLT.out.2).trans xd⟩ | go_keep)
    (first | (go_at_call 29; (with_reducible refine (CC.out _ (by first | exact Below.refl _ _ | exact below_drew1 (Below.refl _ _))).mono ?_); rintro e w5 ⟨ao5, cap5, rfl, hown5, hb5'⟩; have hb5 : Below w2.heap.size w2 w5 := by first | exact hb5' | exact (below_drew1 (Below.refl _ _)).trans hb5'))
  all_goals
    have HO5 := Lib.hid hown5
    have HB5 := Lib.hid hb5
    clear hown5 hb5 hb5'
    go_wp2_with fail
    go_ret3
    exact ⟨ao5, cap5, by rw [HLK.out]; rfl, by rw [HLK.out]; exact HO5.out, HB5.out⟩
end Go.Proofs.Ytioecklnijhjgaa
