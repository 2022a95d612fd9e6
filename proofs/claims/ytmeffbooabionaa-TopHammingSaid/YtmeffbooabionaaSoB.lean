/- slices.insertionSortOrdered at uint16: it computes the plain insertion sort. -/
import Derived.Test.YtmeffbooabionaaSoA
set_option linter.unusedVariables false
set_option linter.unusedSimpArgs false
namespace Go.Proofs.Ytmeffbooabionaa
open Go.RowKit

section
variable {a b i j : Nat} {d : Array Nat}
theorem ins_go (hj : a ≤ j) (hl : ltN d[j + 1]! d[j]! = true) : Sort.insInner ltN a (j + 1) d = Sort.insInner ltN a j (Sort.swp d (j + 1) j) := by
  rw [Sort.insInner, if_pos]
  simp [hl]; omega
theorem ins_stop (hl : ltN d[j + 1]! d[j]! = false) : Sort.insInner ltN a (j + 1) d = d := by
  rw [Sort.insInner, if_neg]
  simp [hl]
theorem ins_at : Sort.insInner ltN a a d = d := by
  cases a with
  | zero => rfl
  | succ k => rw [Sort.insInner, if_neg]; simp
theorem insO_go (h : i < b) : Sort.insOuter ltN a b i d = Sort.insOuter ltN a b (i + 1) (Sort.insInner ltN a i d) := by rw [Sort.insOuter, if_pos h]
theorem insO_end (h : ¬ i < b) : Sort.insOuter ltN a b i d = d := by rw [Sort.insOuter, if_neg h]
end
set_option maxRecDepth 100000 in
set_option maxHeartbeats 4000000 in
theorem so_insertion (n : Nat) (d : Array Nat) (a b base g cap : Nat) (w : World) (hn : n ≤ 1000000) (hd : d.size = n) (hab : a ≤ b) (hbn : b ≤ n) (hO : Own w base 29 g n cap (eU d)) (hb : base ≤ w.heap.size) :
    Calls Try.prog 84 #[.slice (some ⟨g, 0, none⟩) n cap, .int .i64 a, .int .i64 b] w (SoPost base n g cap w (.tuple #[]) (Sort.insertionSort ltN d a b)) := by
  unfold Sort.insertionSort
  have HB : Hid (base ≤ w.heap.size) := hb
  have hc := hO.caps
  have HO : Hid (Own w base 29 g n cap (eU d)) := hO
  have hc1 : (n : Int) ≤ (cap : Int) := by omega
  have hc2 := hc.1
  have hc3 := hc.2
  clear hO hb hc
  go_enter Try.func84, Try.ntmps84
  go_wp2_with fail
  go_loopw [6] (fun vi wr => ∃ (i : Nat) (dk : Array Nat), vi = .int .i64 i ∧ a + 1 ≤ i ∧ (i ≤ b ∨ i = a + 1) ∧ dk.size = n ∧ Hid (Own wr base 29 g n cap (eU dk)) ∧ Hid (Sort.insOuter ltN a b i dk = Sort.insOuter ltN a b (a + 1) d) ∧ Hid (Below base w wr)) (fun vi _ => b - (intOf vi).toNat)
  case atStart => exact ⟨a + 1, d, by go_num, by omega, .inr rfl, hd, HO, rfl, Below.refl _ _⟩
  case round =>
    obtain ⟨i, dk, rfl, hi1, hi, hdk, hO, hE, hB⟩ := hrel
    by_cases hin : i < b
    · have hii : (i : Int) < (b : Int) := by omega
      have hE2 := Lib.hid ((insO_go hin).symm.trans hE.out)
      clear hE
      go_wp2_with fail
      go_loopw [7] (fun vj wr => ∃ (j : Nat) (dj : Array Nat), vj = .int .i64 j ∧ a ≤ j ∧ j ≤ i ∧ dj.size = n ∧ Hid (Own wr base 29 g n cap (eU dj)) ∧ Hid (Sort.insInner ltN a j dj = Sort.insInner ltN a i dk) ∧ Hid (Below base w wr)) (fun vj _ => (intOf vj).toNat)
      case atStart => exact ⟨i, dk, rfl, by omega, Nat.le_refl _, hdk, hO, rfl, hB⟩
      case round =>
        clear hO hB
        obtain ⟨j, dj, rfl, haj, hji, hdj, hO, hI, hB⟩ := hrel
        by_cases hja : j = a
        · subst hja
          have HX : Hid (Sort.insOuter ltN j b (i + 1) dj = Sort.insOuter ltN j b (j + 1) d) := by rw [← hE2.out, ← hI.out, ins_at]; trivial
          go_wp2_with fail
          go_quiet (fail)
          go_wp2_with fail
          go_roundw
          case rel => exact ⟨i + 1, dj, by go_num, by omega, .inl (by omega), hdj, by exact hO.out.drewN _, HX, below_drewN hB.out _⟩
          case measure => simp [intOf]; omega
        · obtain ⟨k, rfl⟩ : ∃ k, j = k + 1 := ⟨j - 1, by omega⟩
          obtain ⟨x, hx⟩ : ∃ x, dj[k + 1]! = x := ⟨_, rfl⟩
          obtain ⟨y, hy⟩ : ∃ y, dj[k]! = y := ⟨_, rfl⟩
          have c1 := (hO.out.cell (show k + 1 < n by omega)).trans (congrArg some (eU_of hx))
          have c2 := (hO.out.cell (show k < n by omega)).trans (congrArg some (eU_of hy))
          have e1 : ((k + 1 : Nat) : Int) - 1 = (k : Int) := by omega
          have e2 : IntKind.i64.wrap (((k + 1 : Nat) : Int) - 1) = (k : Int) := by rw [e1]; exact IntWalk.i64_in _ (by omega)
          obtain ⟨J, hJ⟩ : ∃ J, k + 1 = J := ⟨_, rfl⟩
          rw [hJ] at c1 e2
          have j0 : (a : Int) < (J : Int) := by omega
          have j00 : (0 : Int) ≤ (J : Int) := by omega
          have d0 : decide ((a : Int) < (J : Int)) = true := by simp; omega
          have d1 : decide (a < J) = true := by simp; omega
          have d2 : a < J := by omega
          have j1 : (J : Int) < (n : Int) := by omega
          have j2 : (k : Int) < (n : Int) := by omega
          have j3 : (0 : Int) ≤ (k : Int) := by omega
          have f1 := hO.out.frozen J
          have f2 := hO.out.frozen k
          have HJ := Lib.hid hJ
          have HX := Lib.hid hx
          have HY := Lib.hid hy
          have CL := Lib.hid (fun W => cmp_Less_u16 x y W)
          have hJi : J ≤ i := by omega
          have hak : a ≤ k := by omega
          obtain ⟨B, hLB⟩ : ∃ B, ltN x y = B := ⟨_, rfl⟩
          rw [hLB] at CL
          rw [hJ]
          cases B
          · have HE : Hid (Sort.insOuter ltN a b (i + 1) dj = Sort.insOuter ltN a b (a + 1) d) := by rw [← hE2.out, ← hI.out, ins_stop (by rw [hx, hy]; exact hLB)]; trivial
            clear hx hy hJ hLB
            go_wp2_with fail
            go_quiet ((go_at_call 90; (first | (with_reducible exact quiet_on (fun W' => CL.out W')) | (with_reducible exact quiet_at (fun W' => CL.out W')) | exact CL.out _)))
            go_wp2_with fail
            go_roundw
            case rel => exact ⟨i + 1, dj, by go_num, by omega, .inl (by omega), hdj, by exact hO.out.drewN _, HE, below_drewN hB.out _⟩
            case measure => simp [intOf]; omega
          · have HI2 : Hid (Sort.insInner ltN a k (Sort.swp dj (k + 1) k) = Sort.insInner ltN a i dk) := (ins_go hak (by rw [hx, hy]; exact hLB)).symm.trans hI.out
            have HL := Lib.hid hLB
            have hkj : (k : Int) < (J : Int) := by omega
            clear hx hy hJ hLB
            go_wp2_with fail
            go_quiet ((go_at_call 90; (first | (with_reducible exact quiet_on (fun W' => CL.out W')) | (with_reducible exact quiet_at (fun W' => CL.out W')) | exact CL.out _)))
            have hO' := Lib.hid (hO.out.drewN nq)
            have hB' := Lib.hid (below_drewN hB.out nq)
            clear c1 c2 f1 f2
            obtain ⟨wq, hwq⟩ : ∃ wq, wr.drewN nq = wq := ⟨_, rfl⟩
            rw [hwq] at hO' hB' ⊢
            have c1 := (hO'.out.cell (show J < n by omega)).trans (congrArg some (eU_of (by rw [← HJ.out, HX.out])))
            have c2 := (hO'.out.cell (show k < n by omega)).trans (congrArg some (eU_of HY.out))
            have f1 := hO'.out.frozen J
            have f2 := hO'.out.frozen k
            have HO2 := Lib.hid (own_swap hO'.out hdj (show J < n by omega) (show k < n by omega) (by rw [← HJ.out, HX.out]) HY.out)
            have HB2 := Lib.hid (below_swap (i := J) (j := k) (u := .int .u16 (y : Int)) (v := .int .u16 (x : Int)) hO'.out hB'.out HB.out)
            clear hwq
            go_wp2_with fail
            go_region
            all_goals
              go_wp2_with fail
              go_roundw
              case rel => exact ⟨k, Sort.swp dj J k, by go_num, by omega, by omega, by rw [sz_swp]; exact hdj, own_drew HO2.out, by rw [← HJ.out]; exact HI2, below_drewN HB2.out 1⟩
              case measure => simp [intOf]; omega
    · go_wp2
      go_end0
      refine ⟨rfl, ?_, hB.out⟩
      rw [← hE.out, insO_end hin]
      exact hO.out
end Go.Proofs.Ytmeffbooabionaa
