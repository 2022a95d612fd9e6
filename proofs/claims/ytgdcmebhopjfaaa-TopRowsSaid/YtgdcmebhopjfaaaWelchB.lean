/- Contracts of math/bits.OnesCount and of the reference's Ones; package welch's Check. -/
import Derived.Test.YtgdcmebhopjfaaaRows
import Derived.Test.YtgdcmebhopjfaaaTrM42
namespace Go.Proofs.Ytgdcmebhopjfaaa
open Go.RowKit
set_option maxRecDepth 100000 in
set_option maxHeartbeats 2000000 in
theorem bits_OnesCount64 (x : Nat) (w : World) (hx : x < 4096) :
    Calls Try.prog 159 #[.int .u64 x] w fun e w' => e = .returned (.int .i64 (ones16 x : Nat)) ∧ w = w' := by
  have hok := pop_ok hx
  simp only [popOk, Bool.and_eq_true, decide_eq_true_eq] at hok
  obtain ⟨⟨⟨⟨⟨⟨b1, b2⟩, b3⟩, b4⟩, b5⟩, b6⟩, hfin⟩ := hok
  rw [← hfin]
  obtain ⟨x1, h1⟩ : ∃ y, pop1 x = y := ⟨_, rfl⟩
  rw [h1] at b1 b2 b3 b4 b5 b6 ⊢
  obtain ⟨x2, h2⟩ : ∃ y, pop2 x1 = y := ⟨_, rfl⟩
  rw [h2] at b2 b3 b4 b5 b6 ⊢
  obtain ⟨x3, h3⟩ : ∃ y, pop3 x2 = y := ⟨_, rfl⟩
  rw [h3] at b3 b4 b5 b6 ⊢
  obtain ⟨x4, h4⟩ : ∃ y, pop4 x3 = y := ⟨_, rfl⟩
  rw [h4] at b4 b5 b6 ⊢
  obtain ⟨x5, h5⟩ : ∃ y, pop5 x4 = y := ⟨_, rfl⟩
  rw [h5] at b5 b6 ⊢
  obtain ⟨x6, h6⟩ : ∃ y, pop6 x5 = y := ⟨_, rfl⟩
  rw [h6] at b6 ⊢
  clear hfin
  obtain ⟨a1, ha1⟩ : ∃ y, x / 2 &&& 6148914691236517205 = y := ⟨_, rfl⟩
  obtain ⟨a2, ha2⟩ : ∃ y, x &&& 6148914691236517205 = y := ⟨_, rfl⟩
  obtain ⟨a3, ha3⟩ : ∃ y, x1 / 4 &&& 3689348814741910323 = y := ⟨_, rfl⟩
  obtain ⟨a4, ha4⟩ : ∃ y, x1 &&& 3689348814741910323 = y := ⟨_, rfl⟩
  unfold pop1 at h1
  unfold pop2 at h2
  unfold pop3 at h3
  unfold pop4 at h4
  unfold pop5 at h5
  unfold pop6 at h6
  rw [ha1, ha2] at h1
  rw [ha3, ha4] at h2
  have e1 : bits .and .u64 ((x : Int) / 2) 6148914691236517205 = (a1 : Int) := by
    have := u64_and_nat (x / 2) 6148914691236517205 (by omega) (by omega)
    rw [ha1] at this
    rw [show (x : Int) / 2 = ((x / 2 : Nat) : Int) by omega]; exact this
  have e2 : bits .and .u64 (x : Int) 6148914691236517205 = (a2 : Int) := by
    have := u64_and_nat x 6148914691236517205 (by omega) (by omega)
    rw [ha2] at this
    exact this
  have w1 : IntKind.u64.wrap ((a1 : Int) + a2) = (x1 : Int) := by rw [u64_in _ (by omega) (by omega)]; omega
  have e3 : bits .and .u64 ((x1 : Int) / 4) 3689348814741910323 = (a3 : Int) := by
    have := u64_and_nat (x1 / 4) 3689348814741910323 (by omega) (by omega)
    rw [ha3] at this
    rw [show (x1 : Int) / 4 = ((x1 / 4 : Nat) : Int) by omega]; exact this
  have e4 : bits .and .u64 (x1 : Int) 3689348814741910323 = (a4 : Int) := by
    have := u64_and_nat x1 3689348814741910323 (by omega) (by omega)
    rw [ha4] at this
    exact this
  have w2 : IntKind.u64.wrap ((a3 : Int) + a4) = (x2 : Int) := by rw [u64_in _ (by omega) (by omega)]; omega
  have w3 : IntKind.u64.wrap ((x2 : Int) / 16 + x2) = (x2 : Int) / 16 + x2 := by rw [u64_in _ (by omega) (by omega)]
  have e5 : bits .and .u64 ((x2 : Int) / 16 + x2) 1085102592571150095 = (x3 : Int) := by
    have := u64_and_nat (x2 / 16 + x2) 1085102592571150095 (by omega) (by omega)
    rw [h3] at this
    rw [show (x2 : Int) / 16 + x2 = ((x2 / 16 + x2 : Nat) : Int) by omega]; exact this
  have w4 : IntKind.u64.wrap ((x3 : Int) + x3 / 256) = (x4 : Int) := by rw [u64_in _ (by omega) (by omega)]; omega
  have w5 : IntKind.u64.wrap ((x4 : Int) + x4 / 65536) = (x5 : Int) := by rw [u64_in _ (by omega) (by omega)]; omega
  have w6 : IntKind.u64.wrap ((x5 : Int) + x5 / 4294967296) = (x6 : Int) := by rw [u64_in _ (by omega) (by omega)]; omega
  have w7 : IntKind.i64.wrap (x6 : Int) = (x6 : Int) := IntWalk.i64_in _ (by omega)
  have e6 : bits .and .i64 (x6 : Int) 127 = ((x6 &&& 127 : Nat) : Int) := by
    have := i64_and_nat x6 127 (by omega) (by omega)
    rw [← this]; rfl
  obtain ⟨z, hz⟩ : ∃ z, x6 &&& 127 = z := ⟨_, rfl⟩
  rw [hz] at e6 ⊢
  clear h1 h2 h3 h4 h5 h6 ha1 ha2 ha3 ha4 hz
  go_enter Try.func159, Try.ntmps159
  go_wp2_with fail
  go_ret
  exact ⟨rfl, rfl⟩
set_option maxRecDepth 100000 in
theorem bits_OnesCount (x : Nat) (w : World) (hx : x < 4096) :
    Calls Try.prog 124 #[.int .u64 x] w fun e w' => e = .returned (.int .i64 (ones16 x : Nat)) ∧ w = w' := by
  have HC := Lib.hid (bits_OnesCount64 x w hx)
  go_enter Try.func124, Try.ntmps124
  go_wp2_with fail
  refine HC.out.mono ?_
  rintro e w' ⟨rfl, rfl⟩
  go_wp2_with fail
  go_ret
  exact ⟨rfl, rfl⟩
set_option maxRecDepth 20000 in
theorem welch_Check (n : Nat) (k : Int) (ao : Option Addr) (cap : Nat) (w : World) :
    Calls Try.prog 123 #[.slice ao n cap, .int .i64 k] w fun e w' => e = .returned (.int .i64 (chkE 12 n k)) ∧ w = w' := by
  unfold chkE
  by_cases h : 12 < n
  · have d : decide ((12 : Int) < n) = true := by simp; omega
    rw [if_pos h]
    go_enter Try.func123, Try.ntmps123
    go_wp2_with fail
    go_ret
    exact ⟨rfl, rfl⟩
  · have d : decide ((12 : Int) < n) = false := by simp; omega
    rw [if_neg h]
    by_cases h1 : k < 1
    · have d1 : decide (k < 1) = true := decide_eq_true h1
      rw [if_pos (.inl h1)]
      go_enter Try.func123, Try.ntmps123
      go_wp2_with fail
      go_ret
      exact ⟨rfl, rfl⟩
    · have d1 : decide (k < 1) = false := decide_eq_false h1
      by_cases h2 : (n : Int) < k
      · have d2 : decide ((n : Int) < k) = true := decide_eq_true h2
        rw [if_pos (.inr h2)]
        go_enter Try.func123, Try.ntmps123
        go_wp2_with fail
        go_ret
        exact ⟨rfl, rfl⟩
      · have d2 : decide ((n : Int) < k) = false := decide_eq_false h2
        rw [if_neg (by omega)]
        go_enter Try.func123, Try.ntmps123
        go_wp2_with fail
        go_ret
        exact ⟨rfl, rfl⟩

end Go.Proofs.Ytgdcmebhopjfaaa
