/- The random numbers of slices.breakPatternsOrdered. -/
import Derived.Test.YtmeffbooabionaaSoA
import Derived.Test.YtmeffbooabionaaLenS
import Derived.Laws.Bits64
import Derived.Laws.Bits64b
set_option linter.unusedVariables false
set_option linter.unusedSimpArgs false
namespace Go.Proofs.Ytmeffbooabionaa
open Go.RowKit

theorem bitLen_eq (x : Nat) (h : x < 2 ^ 64) : Lib.bitLen x = Sort.bitsLen x := by
  induction x using Nat.strongRecOn with
  | _ x ih =>
    by_cases h0 : x = 0
    · subst h0; rfl
    · rw [Lib.bitLen_half x h0 h, ih (x / 2) (by omega) (by omega)]
      unfold Sort.bitsLen
      rw [if_neg h0, Nat.log2_def x]
      by_cases h2 : 2 ≤ x
      · rw [if_pos h2, if_neg (by omega)]; omega
      · obtain rfl : x = 1 := by omega
        simp
theorem bitsLen_le {x k : Nat} (h : x < 2 ^ k) : Sort.bitsLen x ≤ k := by
  unfold Sort.bitsLen
  split
  · omega
  · have := (Nat.log2_lt (by assumption)).2 h
    omega
theorem lt_bitsLen (x : Nat) : x < 2 ^ Sort.bitsLen x := by
  unfold Sort.bitsLen
  split
  · subst_vars; simp
  · exact (Nat.log2_lt (by assumption)).1 (by omega)
/-- A block of one cell that a callee writes. -/
structure BoxAt (w w' : World) (sb : Nat) (v : Value) : Prop where
  grown : w.grownBy w' (some sb)
  cell : w'.cell? ⟨sb, 0, none⟩ = some v
  frz : w'.frozen? ⟨sb, 0, none⟩ = false
theorem BoxAt.drewN {w w' : World} {sb : Nat} {v : Value} (h : BoxAt w w' sb v) (q : Nat) : BoxAt w (w'.drewN q) sb v := ⟨⟨h.grown.os, h.grown.tape, h.grown.output, h.grown.size, h.grown.block⟩, h.cell, h.frz⟩
theorem BoxAt.set {w w' : World} {sb : Nat} {v : Value} (h : BoxAt w w' sb v) (t : Value) : BoxAt w (w'.setCell ⟨sb, 0, none⟩ t) sb t := by
  refine ⟨⟨h.grown.os, h.grown.tape, h.grown.output, by have := h.grown.size; simpa using this, fun k hk hne => (Below.heap_setCell _ _ _ k (fun e => hne (by rw [e]))).trans (h.grown.block k hk hne)⟩, ?_, ?_⟩
  · exact World.cell?_setCell_same _ _ _ h.cell
  · have := h.frz
    simpa using this
set_option maxRecDepth 100000 in
set_option maxHeartbeats 4000000 in
theorem xor_Next (sb X : Nat) (hX : X < 18446744073709551616) (w : World) (hc : w.cell? ⟨sb, 0, none⟩ = some (.int .u64 X)) (hf : w.frozen? ⟨sb, 0, none⟩ = false) :
    Calls Try.prog 104 #[.pointer (some ⟨sb, 0, none⟩)] w fun e w' => e = .returned (.int .u64 (Sort.xorNextN X : Nat)) ∧ BoxAt w w' sb (.int .u64 (Sort.xorNextN X : Nat)) := by
  obtain ⟨A, hA⟩ : ∃ A : Nat, A = X ^^^ (X * 8192 % 18446744073709551616) := ⟨_, rfl⟩
  obtain ⟨B, hB⟩ : ∃ B : Nat, B = A ^^^ (A / 128) := ⟨_, rfl⟩
  obtain ⟨C, hC⟩ : ∃ C : Nat, C = B ^^^ (B * 131072 % 18446744073709551616) := ⟨_, rfl⟩
  have lA : A < 18446744073709551616 := by rw [hA]; exact Nat.xor_lt_two_pow (n := 64) (by omega) (by omega)
  have lB : B < 18446744073709551616 := by rw [hB]; exact Nat.xor_lt_two_pow (n := 64) (by omega) (by omega)
  have e1 : bits .xor .u64 (X : Int) (IntKind.u64.wrap ((X : Int) * 8192)) = (A : Int) := by
    rw [IntKind.wrap_u64, show ((X : Int) * 8192 % 18446744073709551616) = ((X * 8192 % 18446744073709551616 : Nat) : Int) by omega, bits_xor_u64_nat _ _ hX (by omega), hA]
  have e2 : bits .xor .u64 (A : Int) ((A : Int) / 128) = (B : Int) := by
    rw [show ((A : Int) / 128) = ((A / 128 : Nat) : Int) by omega, bits_xor_u64_nat _ _ lA (by omega), hB]
  have e3 : bits .xor .u64 (B : Int) (IntKind.u64.wrap ((B : Int) * 131072)) = (C : Int) := by
    rw [IntKind.wrap_u64, show ((B : Int) * 131072 % 18446744073709551616) = ((B * 131072 % 18446744073709551616 : Nat) : Int) by omega, bits_xor_u64_nat _ _ lB (by omega), hC]
  have hv : Sort.xorNextN X = C := by unfold Sort.xorNextN; simp only []; rw [← hA, ← hB, ← hC]
  rw [hv]
  have H0 := Lib.hid (⟨World.grownBy.refl _ _, hc, hf⟩ : BoxAt w w sb (.int .u64 X))
  have H1 := Lib.hid ((H0.out.set (.int .u64 (A : Int))).drewN 1)
  have H2 := Lib.hid ((H1.out.set (.int .u64 (B : Int))).drewN 1)
  have H3 := Lib.hid ((H2.out.set (.int .u64 (C : Int))).drewN 1)
  have c1 := H1.out.cell
  have f1 := H1.out.frz
  have c2 := H2.out.cell
  have f2 := H2.out.frz
  have c3 := H3.out.cell
  obtain ⟨w1, hw1⟩ : ∃ w1, (w.setCell ⟨sb, 0, none⟩ (.int .u64 (A : Int))).drewN 1 = w1 := ⟨_, rfl⟩
  rw [hw1] at c1 f1 c2 f2 c3 H3
  obtain ⟨w2, hw2⟩ : ∃ w2, (w1.setCell ⟨sb, 0, none⟩ (.int .u64 (B : Int))).drewN 1 = w2 := ⟨_, rfl⟩
  rw [hw2] at c2 f2 c3 H3
  obtain ⟨w3, hw3⟩ : ∃ w3, (w2.setCell ⟨sb, 0, none⟩ (.int .u64 (C : Int))).drewN 1 = w3 := ⟨_, rfl⟩
  rw [hw3] at c3 H3
  have hw1' : (w.setCell ⟨sb, 0, none⟩ (.int .u64 (A : Int))).drew = w1 := hw1
  have hw2' : (w1.setCell ⟨sb, 0, none⟩ (.int .u64 (B : Int))).drew = w2 := hw2
  have hw3' : (w2.setCell ⟨sb, 0, none⟩ (.int .u64 (C : Int))).drew = w3 := hw3
  clear hA hB hC hv H0 H1 H2 hw1 hw2 hw3
  go_enter Try.func104, Try.ntmps104
  go_wp2_with fail
  go_region
  all_goals (try rw [hw1'])
  all_goals go_wp2_with fail
  all_goals go_region
  all_goals (try rw [hw2'])
  all_goals go_wp2_with fail
  all_goals go_region
  all_goals (try rw [hw3'])
  all_goals go_wp2_with fail
  all_goals go_ret
  all_goals exact ⟨rfl, H3.out⟩
theorem wrap_two (k : Nat) (hk : k ≤ 40) : IntKind.u64.wrap ((2 : Int) ^ k) = ((1 <<< k : Nat) : Int) := by
  have h : (2 : Nat) ^ k ≤ 2 ^ 40 := Nat.pow_le_pow_right (by decide) hk
  rw [IntKind.wrap_u64, Nat.one_shiftLeft, show ((2 : Int) ^ k) = ((2 ^ k : Nat) : Int) by push_cast; rfl]
  generalize (2 : Nat) ^ k = p at h
  omega
set_option maxRecDepth 100000 in
set_option maxHeartbeats 4000000 in
theorem next_Power (l : Nat) (hl : l ≤ 1000000) (w : World) :
    Calls Try.prog 103 #[.int .i64 l] w fun e w' => e = .returned (.int .u64 ((1 <<< Sort.bitsLen l : Nat) : Int)) ∧ w' = w := by
  have CL : ∀ w, Calls Try.prog 67 #[.int .u64 (l : Int)] w fun e w' => e = .returned (.int .i64 (Sort.bitsLen l : Nat)) ∧ w' = w := fun w => by
    have h := bits_Len (l : Int) w (by omega) (by omega)
    rwa [Int.toNat_natCast, bitLen_eq _ (by omega)] at h
  have hk : Sort.bitsLen l ≤ 20 := bitsLen_le (by omega)
  have hp := wrap_two (Sort.bitsLen l) (by omega)
  have wl : IntKind.u64.wrap (l : Int) = (l : Int) := by rw [IntKind.wrap_u64]; omega
  obtain ⟨K, hK⟩ : ∃ K, Sort.bitsLen l = K := ⟨_, rfl⟩
  rw [hK] at hk hp CL ⊢
  have HCL := Lib.hid CL
  clear CL hK
  go_enter Try.func103, Try.ntmps103
  go_wp2_with (first | (go_at_call 67; refine (HCL.out _).mono ?_; rintro e w' ⟨rfl, rfl⟩) | fail)
  go_ret
  exact ⟨rfl, rfl⟩
end Go.Proofs.Ytmeffbooabionaa
