/- slices.Index and slices.Contains at what is kept. -/
import Derived.Test.YtioecklnijhjgaaPlM26
set_option linter.unusedVariables false
set_option linter.unusedSimpArgs false
namespace Go.Proofs.Ytioecklnijhjgaa
open Go.RowKit

theorem hasK_yes {l : List Kp} {a : Nat} {p : ByteArray} {k : Nat} {x : Kp} (h : l[k]? = some x) (h1 : x.1 = a) (h2 : x.2.toList = p.toList) : hasK l a p = true := by
  unfold hasK
  rw [List.any_eq_true]
  exact ⟨x, List.mem_of_getElem? h, by simp [h1, h2]⟩
theorem hasK_no {l : List Kp} {a : Nat} {p : ByteArray} (h : ∀ (i : Nat) (y : Kp), l[i]? = some y → ¬ (y.1 = a ∧ y.2.toList = p.toList)) : hasK l a p = false := by
  unfold hasK
  rw [List.any_eq_false]
  intro x hx hc
  obtain ⟨i, hi⟩ := List.getElem?_of_mem hx
  apply h i x hi
  simpa using hc
def IdxPost (B : Bool) (w : World) (e : Ending) (w' : World) : Prop := ∃ r : Int, e = .returned (.int .i64 r) ∧ decide (0 ≤ r) = B ∧ Below w.heap.size w w'
set_option maxRecDepth 20000 in
set_option maxHeartbeats 1000000 in
theorem idx_kept (l : List Kp) (n a : Nat) (p : ByteArray) (ao : Option Addr) (cap : Nat) (w : World) (hl : l.length = n) (hn : n ≤ 9223372036854775807) (hR : Hid (Reads w ao (kpCells l))) :
    Calls Try.prog 62 #[.slice ao n cap, .agg #[.int .i64 (a : Int), .int .i64 0, .string p]] w (IdxPost (hasK l a p) w) := by
  have HL := Lib.hid hl
  obtain ⟨W1, hW1⟩ : ∃ W1, w.alloc (.cells #[.int .i64 (a : Int), .int .i64 0, .string p] 50) = W1 := ⟨_, rfl⟩
  have hb1 : Below w.heap.size w W1 := by rw [← hW1]; exact below_alloc _ _
  have c0 : W1.cell? ⟨w.heap.size, 0, none⟩ = some (.int .i64 (a : Int)) := by rw [← hW1]; simp [World.cell?_alloc_new]
  have c1 : W1.cell? ⟨w.heap.size, 1, none⟩ = some (.int .i64 0) := by rw [← hW1]; simp [World.cell?_alloc_new]
  have c2 : W1.cell? ⟨w.heap.size, 2, none⟩ = some (.string p) := by rw [← hW1]; simp [World.cell?_alloc_new]
  have HB1 := Lib.hid hb1
  clear hl hb1
  go_enter Try.func62, Try.ntmps62
  go_wp2_with fail
  clear hW1
  go_loopw [8] (fun vi wr => ∃ k : Nat, vi = .int .i64 k ∧ k ≤ n ∧ Hid (∀ (i : Nat) (y : Kp), i < k → l[i]? = some y → ¬ (y.1 = a ∧ y.2.toList = p.toList)) ∧ ∃ q, wr = W1.drewN q) (fun vi _ => n - (intOf vi).toNat)
  case atStart => exact ⟨0, rfl, by omega, Lib.hid (by intro j y hj; omega), 0, rfl⟩
  case round =>
    obtain ⟨k, rfl, hk, hno, q, rfl⟩ := hrel
    by_cases hkl : k < n
    · obtain ⟨b, o, rfl, x0, x1, x2⟩ := kp_cells (hR.out.below HB1.out) (k := k) (by rw [HL.out]; exact hkl)
      obtain ⟨x, hx⟩ : ∃ x, l[k]'(by rw [HL.out]; exact hkl) = x := ⟨_, rfl⟩
      have HX : Hid (l[k]? = some x) := Lib.hid (by rw [List.getElem?_eq_getElem (by rw [HL.out]; exact hkl), hx])
      rw [hx] at x0 x2
      obtain ⟨y, s⟩ := x
      have i0 : (0 : Int) ≤ (k : Int) := by omega
      have i1 : (k : Int) < (n : Int) := by omega
      clear hx
      by_cases h1 : y = a
      · have d1 : ((a : Int) == (y : Int)) = true := by simp; omega
        by_cases h2 : s.toList = p.toList
        · have d2 : (p.toList == s.toList) = true := by simp [h2]
          have HY := Lib.hid (hasK_yes HX.out h1 h2)
          clear h1 h2
          go_wp2_with fail
          go_quiet (fail)
          go_wp2_with fail
          go_ret
          exact ⟨_, rfl, by rw [HY.out]; simp, below_drewN (below_drewN HB1.out q) _⟩
        · have d2 : (p.toList == s.toList) = false := by rw [beq_eq_false_iff_ne]; exact fun e => h2 e.symm
          have H2 : Hid (¬ (y = a ∧ s.toList = p.toList)) := Lib.hid (fun e => h2 e.2)
          clear h1 h2
          go_wp2_with fail
          go_quiet (fail)
          go_wp2_with fail
          go_roundw
          case rel => exact ⟨k + 1, by go_num, by omega, Lib.hid (by
            intro i z hi hz
            by_cases he : i = k
            · subst he; rw [HX.out] at hz; cases hz; exact H2.out
            · exact hno.out i z (by omega) hz), by first | exact ⟨_, rfl⟩ | exact dr2 _ _ _⟩
          case measure => simp [intOf]; omega
      · have d1 : ((a : Int) == (y : Int)) = false := by simp; omega
        have H2 : Hid (¬ (y = a ∧ s.toList = p.toList)) := Lib.hid (fun e => h1 e.1)
        obtain ⟨d2, hd2⟩ : ∃ d2, (p.toList == s.toList) = d2 := ⟨_, rfl⟩
        clear h1
        go_wp2_with fail
        go_quiet (fail)
        go_wp2_with fail
        go_roundw
        case rel => exact ⟨k + 1, by go_num, by omega, Lib.hid (by
          intro i z hi hz
          by_cases he : i = k
          · subst he; rw [HX.out] at hz; cases hz; exact H2.out
          · exact hno.out i z (by omega) hz), by first | exact ⟨_, rfl⟩ | exact dr2 _ _ _⟩
        case measure => simp [intOf]; omega
    · obtain rfl : n = k := by omega
      go_wp2_with fail
      go_ret
      have hall : hasK l a p = false := hasK_no fun i y hi => hno.out i y (by have := (List.getElem?_eq_some_iff.1 hi).1; have := HL.out; omega) hi
      exact ⟨_, rfl, by rw [hall]; simp, below_drewN HB1.out q⟩
def BoolB' (b : Bool) (w : World) (e : Ending) (w' : World) : Prop := e = .returned (.bool b) ∧ Below w.heap.size w w'
set_option maxRecDepth 20000 in
theorem contains_kept (l : List Kp) (n a : Nat) (p : ByteArray) (ao : Option Addr) (cap : Nat) (w : World) (hl : l.length = n) (hn : n ≤ 9223372036854775807) (hR : Hid (Reads w ao (kpCells l))) :
    Calls Try.prog 43 #[.slice ao n cap, .agg #[.int .i64 (a : Int), .int .i64 0, .string p]] w (BoolB' (hasK l a p) w) := by
  obtain ⟨W1, hW1⟩ : ∃ W1, w.alloc (.cells #[.int .i64 (a : Int), .int .i64 0, .string p] 50) = W1 := ⟨_, rfl⟩
  have hb1 : Below w.heap.size w W1 := by rw [← hW1]; exact below_alloc _ _
  have c0 : W1.cell? ⟨w.heap.size, 0, none⟩ = some (.int .i64 (a : Int)) := by rw [← hW1]; simp [World.cell?_alloc_new]
  have c1 : W1.cell? ⟨w.heap.size, 1, none⟩ = some (.int .i64 0) := by rw [← hW1]; simp [World.cell?_alloc_new]
  have c2 : W1.cell? ⟨w.heap.size, 2, none⟩ = some (.string p) := by rw [← hW1]; simp [World.cell?_alloc_new]
  have C := Lib.hid (idx_kept l n a p ao cap W1 hl hn (Lib.hid (hR.out.below hb1)))
  unfold IdxPost at C
  have HB1 := Lib.hid hb1
  clear hl hb1
  obtain ⟨B, hB⟩ : ∃ B, hasK l a p = B := ⟨_, rfl⟩
  rw [hB] at C ⊢
  clear hB
  go_enter Try.func43, Try.ntmps43
  go_wp2_with fail
  (with_reducible refine C.out.mono ?_)
  rintro e w2 ⟨r, rfl, hr, hb⟩
  have HB2 := Lib.hid (HB1.out.trans (hb.mono HB1.out.size))
  have HRR := Lib.hid hr
  clear hb hr C
  go_wp2_with fail
  go_ret
  exact ⟨ret_bool HRR.out, HB2.out⟩
end Go.Proofs.Ytioecklnijhjgaa
