/- HammingSays: for arbitrary words Put and Get answer what the document says. Conditions: none. -/
import Derived.Test.YtonphmkilikapaaRows
import Derived.Test.YtonphmkilikapaaHamming
namespace Go.Proofs.Ytonphmkilikapaa
open Go.RowKit

theorem place_idx (k : Nat) (hk : k < 11) (w : World) :
    (Instr.index 106 (.agg #[.int .i64 3, .int .i64 5, .int .i64 6, .int .i64 7, .int .i64 9, .int .i64 10, .int .i64 11, .int .i64 12, .int .i64 13, .int .i64 14, .int .i64 15]) (.int .i64 (k : Int))).run Try.prog w = .ok (.int .i64 (places.getD k 0 : Nat)) w := by
  have : k = 0 ∨ k = 1 ∨ k = 2 ∨ k = 3 ∨ k = 4 ∨ k = 5 ∨ k = 6 ∨ k = 7 ∨ k = 8 ∨ k = 9 ∨ k = 10 := by omega
  rcases this with rfl | rfl | rfl | rfl | rfl | rfl | rfl | rfl | rfl | rfl | rfl
  all_goals (show (_ : Result Value) = _; kernel_rfl)
theorem places_bd : ∀ k : Fin 11, 1 ≤ places.getD k.val 0 ∧ places.getD k.val 0 ≤ 15 := by decide +kernel
theorem dataN_lt (k x : Nat) : dataN k x < 2 ^ k := by
  induction k with
  | zero => simp [dataN]
  | succ k ih =>
    simp only [dataN]
    refine Nat.or_lt_two_pow (Nat.lt_of_lt_of_le ih (Nat.pow_le_pow_right (by omega) (by omega))) ?_
    rw [Nat.pow_succ]
    have h1 : 0 < 2 ^ k := Nat.pow_pos (by omega)
    have h2 := Nat.mul_le_mul_right (2 ^ k) (show hbit x (places.getD k 0 - 1) ≤ 1 by have := hbit_01 x (places.getD k 0 - 1); omega)
    omega

set_option maxHeartbeats 1000000 in
theorem ref_DataOf (x : Nat) (w : World) (hx : x < 65536) :
    Calls Try.prog 37 #[.int .u16 x] w fun e w' => e = .returned (.int .u16 (hdata x : Nat)) ∧ ∃ n, w' = w.drewN n := by
  go_enter Try.func37, Try.ntmps37
  go_wp2_with fail
  go_loopw [3, 7] (fun vo va wr => ∃ k o : Nat, va = .int .i64 k ∧ vo = .int .u16 o ∧ k ≤ 11 ∧ o < 65536 ∧ Hid (o = dataN k x) ∧ ∃ n, wr = w.drewN n) (fun _ va _ => 11 - (intOf va).toNat)
  case atStart => exact ⟨0, 0, rfl, rfl, by omega, by omega, by show _ = _; rfl, 0, rfl⟩
  case round =>
    obtain ⟨k, o, rfl, rfl, hk, ho, hoe, n, rfl⟩ := hrel
    by_cases hk11 : k < 11
    · have hidx := place_idx k hk11
      obtain ⟨p, hp⟩ : ∃ p, places.getD k 0 = p := ⟨_, rfl⟩
      have hpb : 1 ≤ p ∧ p ≤ 15 := by rw [← hp]; exact places_bd ⟨k, hk11⟩
      rw [hp] at hidx
      have t1 : ((p : Int) - 1).toNat = p - 1 := by omega
      have e1 := u16_bit x (p - 1) hx
      have hk14 := pow14 k (by omega)
      obtain ⟨S, hS⟩ : ∃ S, hbit x (p - 1) * 2 ^ k = S := ⟨_, rfl⟩
      have hS1 : S ≤ 16384 := by
        have h1 : hbit x (p - 1) ≤ 1 := by have := hbit_01 x (p - 1); omega
        have := Nat.mul_le_mul h1 hk14
        omega
      have e2 : IntKind.u16.wrap ((hbit x (p - 1) : Int) * 2 ^ k) = (S : Int) := by
        have h1 : (hbit x (p - 1) : Int) * 2 ^ k = (S : Int) := by rw [← hS, int_pow]; push_cast; rfl
        rw [h1]; exact IntWalk.u16_in _ (by omega)
      have e3 := u16_or_nat o S (by omega) (by omega)
      have hn : Hid (o ||| S = dataN (k + 1) x) := by
        show _ = _
        simp only [dataN]
        rw [hp, hS, ← hoe.out]
      have hdS : o ||| S < 65536 := Nat.or_lt_two_pow (n := 16) (by omega) (by omega)
      clear hp hS hk14
      go_wp2_with fail
      go_roundw
      case rel => exact ⟨k + 1, o ||| S, by go_num, rfl, by omega, hdS, hn, _, rfl⟩
      case measure => simp [intOf]; omega
    · obtain rfl : k = 11 := by omega
      have hfin : Hid (o = hdata x) := by show _ = _; rw [← hdata_eq]; exact hoe.out
      go_wp2_with fail
      go_ret
      exact ⟨by rw [hfin.out]; rfl, _, rfl⟩

theorem hdata_bd (x : Nat) : hdata x < 65536 := by
  rw [← hdata_eq]; have := dataN_lt 11 x; omega
theorem hsum_bd (x : Nat) : hsum x ≤ 15 := by have := hsumN_lt 15 x (by omega); unfold hsum; omega

set_option maxRecDepth 200000 in
set_option maxHeartbeats 2000000 in
theorem hammingSays_1 (d x : Nat) (w : World) (hd : d < 2048) (hx : x < 32768) :
    Calls Try.prog 7 #[.int .u16 d, .int .u16 x] w fun e w' => e = .returned (.bool true) ∧ Below w.heap.size w w' := by
  obtain ⟨h1, h2, h3⟩ := hput_ok hd
  have HR : Hid (decide (hsum (hput d) = 0) = true) := by show _ = _; rw [h2]; rfl
  have HD : Hid (hdata (hput d) = d) := h3
  have dd : decide ((2047 : Int) < d) = false := by simp; omega
  have dx : decide ((32767 : Int) < x) = false := by simp; omega
  have dp : decide ((32767 : Int) < ((hput d : Nat) : Int)) = false := by simp; omega
  have m1 : (((d : Nat) : Int) != (d : Int)) = false := by simp
  have hsb := hsum_bd x
  clear h2 h3
  go_enter Try.func7, Try.ntmps7
  go_wp2_with (first | (go_at_call 34; refine (hamming_Put d _ hd).mono ?_; rintro e w' ⟨rfl, rfl⟩) | (go_at_call 35; refine (hamming_Get x _ hx).mono ?_; rintro e w' ⟨rfl, rfl⟩) | (go_at_call 36; refine (ref_RightWord _ _ (by omega)).mono ?_; rw [HR.out]; rintro e w' ⟨rfl, n1, rfl⟩) | (go_at_call 37; refine (ref_DataOf _ _ (by omega)).mono ?_; rw [HD.out]; rintro e w' ⟨rfl, n2, rfl⟩))
  go_loopw [60] (fun vi wr => ∃ k : Nat, vi = .int .i64 k ∧ k ≤ 15 ∧ k ≤ hsum x ∧ ∃ n, wr = w.drewN n) (fun vi _ => 16 - (intOf vi).toNat)
  case atStart => exact ⟨0, rfl, by omega, by omega, by first | exact ⟨_, rfl⟩ | exact ⟨0, rfl⟩⟩
  case round =>
    obtain ⟨k, rfl, hk, hks, n3, rfl⟩ := hrel
    obtain ⟨y, hy⟩ : ∃ y, turn x k = y := ⟨_, rfl⟩
    have hyl : y < 32768 := by rw [← hy]; exact turn_lt x k hx hk
    have HX := Lib.hid (hsum_turn x k hk)
    have HY := Lib.hid hy
    clear hy
    by_cases hlast : k = hsum x
    · have HR : Hid (decide (hsum y = 0) = true) := by
        show _ = _
        rw [← HY.out, HX.out, hlast, Nat.xor_self]; rfl
      have HL := Lib.hid hlast
      have hd1 : (((hdata (turn x (hsum x)) : Nat) : Int) == ((hdata y : Nat) : Int)) = true := by rw [← HY.out, ← hlast]; simp
      have hd2 : (((hsum x : Nat) : Int) == (k : Int)) = true := by rw [← hlast]; simp
      clear hlast
      by_cases hk0 : k = 0
      · subst hk0
        have hyx : x = y := by have := HY.out; simpa [turn] using this
        subst hyx
        go_wp2_with (first | (go_at_call 36; refine (ref_RightWord x _ (by omega)).mono ?_; rw [HR.out]; rintro e w' ⟨rfl, n4, rfl⟩) | (go_at_call 37; refine (ref_DataOf x _ (by omega)).mono ?_; rintro e w' ⟨rfl, n5, rfl⟩))
        go_ret
        exact ⟨by first | rfl | (refine ret_bool ?_; have h9 := HL.out; simp; omega) | (refine ret_bool ?_; simp [*]; done), (by repeat (first | exact Below.refl _ _ | apply below_drewN | (refine Below.alloc ?_ (by simp) _)))⟩
      · have t1 : ((k : Int) - 1).toNat = k - 1 := by omega
        obtain ⟨M, hM⟩ : ∃ M, 2 ^ (k - 1) = M := ⟨_, rfl⟩
        have hMb : M ≤ 16384 := by rw [← hM]; exact pow14 _ (by omega)
        have e0 : IntKind.u16.wrap ((2 : Int) ^ (k - 1)) = (M : Int) := by
          rw [int_pow, hM]; exact IntWalk.u16_in _ (by omega)
        have e0' : bits .xor .u16 (x : Int) (M : Int) = (y : Int) := by
          rw [u16_xor_nat x M (by omega) (by omega), ← HY.out]
          unfold turn
          rw [if_neg hk0, hM]
        have hkp : 0 < k := by omega
        clear hM
        go_wp2_with (first | (go_at_call 36; refine (ref_RightWord y _ (by omega)).mono ?_; rw [HR.out]; rintro e w' ⟨rfl, n4, rfl⟩) | (go_at_call 37; refine (ref_DataOf y _ (by omega)).mono ?_; rintro e w' ⟨rfl, n5, rfl⟩))
        go_ret
        exact ⟨by first | rfl | (refine ret_bool ?_; have h9 := HL.out; simp; omega) | (refine ret_bool ?_; simp [*]; done), (by repeat (first | exact Below.refl _ _ | apply below_drewN | (refine Below.alloc ?_ (by simp) _)))⟩
    · have HR : Hid (decide (hsum y = 0) = false) := by
        show _ = _
        rw [← HY.out, HX.out]
        simp only [decide_eq_false_iff_not]
        intro h
        exact hlast ((xor_eq_zero' _ _).1 h).symm
      have hks2 : k + 1 ≤ hsum x := by omega
      clear hlast
      by_cases hk0 : k = 0
      · subst hk0
        have hyx : x = y := by have := HY.out; simpa [turn] using this
        subst hyx
        go_wp2_with (first | (go_at_call 36; refine (ref_RightWord x _ (by omega)).mono ?_; rw [HR.out]; rintro e w' ⟨rfl, n4, rfl⟩) | (go_at_call 37; refine (ref_DataOf x _ (by omega)).mono ?_; rintro e w' ⟨rfl, n5, rfl⟩))
        go_roundw
        case rel => exact ⟨0 + 1, by go_num, by have := hsumN_lt 15 x (by omega); have : hsum x < 16 := this; omega, hks2, _, rfl⟩
        case measure => simp [intOf]
      · have t1 : ((k : Int) - 1).toNat = k - 1 := by omega
        obtain ⟨M, hM⟩ : ∃ M, 2 ^ (k - 1) = M := ⟨_, rfl⟩
        have hMb : M ≤ 16384 := by rw [← hM]; exact pow14 _ (by omega)
        have e0 : IntKind.u16.wrap ((2 : Int) ^ (k - 1)) = (M : Int) := by
          rw [int_pow, hM]; exact IntWalk.u16_in _ (by omega)
        have e0' : bits .xor .u16 (x : Int) (M : Int) = (y : Int) := by
          rw [u16_xor_nat x M (by omega) (by omega), ← HY.out]
          unfold turn
          rw [if_neg hk0, hM]
        have hkp : 0 < k := by omega
        clear hM
        go_wp2_with (first | (go_at_call 36; refine (ref_RightWord y _ (by omega)).mono ?_; rw [HR.out]; rintro e w' ⟨rfl, n4, rfl⟩) | (go_at_call 37; refine (ref_DataOf y _ (by omega)).mono ?_; rintro e w' ⟨rfl, n5, rfl⟩))
        go_roundw
        case rel => exact ⟨k + 1, by go_num, by have := hsumN_lt 15 x (by omega); have : hsum x < 16 := this; omega, hks2, _, rfl⟩
        case measure => simp [intOf]; omega

set_option maxRecDepth 200000 in
set_option maxHeartbeats 2000000 in
theorem hammingSays_2 (d x : Nat) (w : World) (hd : 2048 ≤ d) (hx : x < 32768) :
    Calls Try.prog 7 #[.int .u16 d, .int .u16 x] w fun e w' => e = .returned (.bool true) ∧ Below w.heap.size w w' := by
  have dd : decide ((2047 : Int) < d) = true := by simp; omega
  have dx : decide ((32767 : Int) < x) = false := by simp; omega
  have hsb := hsum_bd x
  have HDD := Lib.hid hd
  clear hd
  go_enter Try.func7, Try.ntmps7
  go_wp2_with (first | (go_at_call 34; refine (hamming_Put_bad d _ HDD.out).mono ?_; rintro e w' ⟨rfl, rfl⟩) | (go_at_call 35; refine (hamming_Get x _ hx).mono ?_; rintro e w' ⟨rfl, rfl⟩))
  go_loopw [60] (fun vi wr => ∃ k : Nat, vi = .int .i64 k ∧ k ≤ 15 ∧ k ≤ hsum x ∧ ∃ n, wr = w.drewN n) (fun vi _ => 16 - (intOf vi).toNat)
  case atStart => exact ⟨0, rfl, by omega, by omega, by first | exact ⟨_, rfl⟩ | exact ⟨0, rfl⟩⟩
  case round =>
    obtain ⟨k, rfl, hk, hks, n3, rfl⟩ := hrel
    obtain ⟨y, hy⟩ : ∃ y, turn x k = y := ⟨_, rfl⟩
    have hyl : y < 32768 := by rw [← hy]; exact turn_lt x k hx hk
    have HX := Lib.hid (hsum_turn x k hk)
    have HY := Lib.hid hy
    clear hy
    by_cases hlast : k = hsum x
    · have HR : Hid (decide (hsum y = 0) = true) := by
        show _ = _
        rw [← HY.out, HX.out, hlast, Nat.xor_self]; rfl
      have HL := Lib.hid hlast
      have hd1 : (((hdata (turn x (hsum x)) : Nat) : Int) == ((hdata y : Nat) : Int)) = true := by rw [← HY.out, ← hlast]; simp
      have hd2 : (((hsum x : Nat) : Int) == (k : Int)) = true := by rw [← hlast]; simp
      clear hlast
      by_cases hk0 : k = 0
      · subst hk0
        have hyx : x = y := by have := HY.out; simpa [turn] using this
        subst hyx
        go_wp2_with (first | (go_at_call 36; refine (ref_RightWord x _ (by omega)).mono ?_; rw [HR.out]; rintro e w' ⟨rfl, n4, rfl⟩) | (go_at_call 37; refine (ref_DataOf x _ (by omega)).mono ?_; rintro e w' ⟨rfl, n5, rfl⟩))
        go_ret
        exact ⟨by first | rfl | (refine ret_bool ?_; have h9 := HL.out; simp; omega) | (refine ret_bool ?_; simp [*]; done), (by repeat (first | exact Below.refl _ _ | apply below_drewN | (refine Below.alloc ?_ (by simp) _)))⟩
      · have t1 : ((k : Int) - 1).toNat = k - 1 := by omega
        obtain ⟨M, hM⟩ : ∃ M, 2 ^ (k - 1) = M := ⟨_, rfl⟩
        have hMb : M ≤ 16384 := by rw [← hM]; exact pow14 _ (by omega)
        have e0 : IntKind.u16.wrap ((2 : Int) ^ (k - 1)) = (M : Int) := by
          rw [int_pow, hM]; exact IntWalk.u16_in _ (by omega)
        have e0' : bits .xor .u16 (x : Int) (M : Int) = (y : Int) := by
          rw [u16_xor_nat x M (by omega) (by omega), ← HY.out]
          unfold turn
          rw [if_neg hk0, hM]
        have hkp : 0 < k := by omega
        clear hM
        go_wp2_with (first | (go_at_call 36; refine (ref_RightWord y _ (by omega)).mono ?_; rw [HR.out]; rintro e w' ⟨rfl, n4, rfl⟩) | (go_at_call 37; refine (ref_DataOf y _ (by omega)).mono ?_; rintro e w' ⟨rfl, n5, rfl⟩))
        go_ret
        exact ⟨by first | rfl | (refine ret_bool ?_; have h9 := HL.out; simp; omega) | (refine ret_bool ?_; simp [*]; done), (by repeat (first | exact Below.refl _ _ | apply below_drewN | (refine Below.alloc ?_ (by simp) _)))⟩
    · have HR : Hid (decide (hsum y = 0) = false) := by
        show _ = _
        rw [← HY.out, HX.out]
        simp only [decide_eq_false_iff_not]
        intro h
        exact hlast ((xor_eq_zero' _ _).1 h).symm
      have hks2 : k + 1 ≤ hsum x := by omega
      clear hlast
      by_cases hk0 : k = 0
      · subst hk0
        have hyx : x = y := by have := HY.out; simpa [turn] using this
        subst hyx
        go_wp2_with (first | (go_at_call 36; refine (ref_RightWord x _ (by omega)).mono ?_; rw [HR.out]; rintro e w' ⟨rfl, n4, rfl⟩) | (go_at_call 37; refine (ref_DataOf x _ (by omega)).mono ?_; rintro e w' ⟨rfl, n5, rfl⟩))
        go_roundw
        case rel => exact ⟨0 + 1, by go_num, by have := hsumN_lt 15 x (by omega); have : hsum x < 16 := this; omega, hks2, _, rfl⟩
        case measure => simp [intOf]
      · have t1 : ((k : Int) - 1).toNat = k - 1 := by omega
        obtain ⟨M, hM⟩ : ∃ M, 2 ^ (k - 1) = M := ⟨_, rfl⟩
        have hMb : M ≤ 16384 := by rw [← hM]; exact pow14 _ (by omega)
        have e0 : IntKind.u16.wrap ((2 : Int) ^ (k - 1)) = (M : Int) := by
          rw [int_pow, hM]; exact IntWalk.u16_in _ (by omega)
        have e0' : bits .xor .u16 (x : Int) (M : Int) = (y : Int) := by
          rw [u16_xor_nat x M (by omega) (by omega), ← HY.out]
          unfold turn
          rw [if_neg hk0, hM]
        have hkp : 0 < k := by omega
        clear hM
        go_wp2_with (first | (go_at_call 36; refine (ref_RightWord y _ (by omega)).mono ?_; rw [HR.out]; rintro e w' ⟨rfl, n4, rfl⟩) | (go_at_call 37; refine (ref_DataOf y _ (by omega)).mono ?_; rintro e w' ⟨rfl, n5, rfl⟩))
        go_roundw
        case rel => exact ⟨k + 1, by go_num, by have := hsumN_lt 15 x (by omega); have : hsum x < 16 := this; omega, hks2, _, rfl⟩
        case measure => simp [intOf]; omega

set_option maxRecDepth 200000 in
set_option maxHeartbeats 2000000 in
theorem hammingSays_3 (d x : Nat) (w : World) (hd : d < 2048) (hx : 32768 ≤ x) :
    Calls Try.prog 7 #[.int .u16 d, .int .u16 x] w fun e w' => e = .returned (.bool true) ∧ Below w.heap.size w w' := by
  obtain ⟨h1, h2, h3⟩ := hput_ok hd
  have HR : Hid (decide (hsum (hput d) = 0) = true) := by show _ = _; rw [h2]; rfl
  have HD : Hid (hdata (hput d) = d) := h3
  have dd : decide ((2047 : Int) < d) = false := by simp; omega
  have dx : decide ((32767 : Int) < x) = true := by simp; omega
  have dp : decide ((32767 : Int) < ((hput d : Nat) : Int)) = false := by simp; omega
  have m1 : (((d : Nat) : Int) != (d : Int)) = false := by simp
  have HXX := Lib.hid hx
  clear h2 h3
  clear hx
  go_enter Try.func7, Try.ntmps7
  go_wp2_with (first | (go_at_call 34; refine (hamming_Put d _ hd).mono ?_; rintro e w' ⟨rfl, rfl⟩) | (go_at_call 35; refine (hamming_Get_bad x _ HXX.out).mono ?_; rintro e w' ⟨rfl, rfl⟩) | (go_at_call 36; refine (ref_RightWord _ _ (by omega)).mono ?_; rw [HR.out]; rintro e w' ⟨rfl, n1, rfl⟩) | (go_at_call 37; refine (ref_DataOf _ _ (by omega)).mono ?_; rw [HD.out]; rintro e w' ⟨rfl, n2, rfl⟩))
  go_ret
  exact ⟨rfl, (by repeat (first | exact Below.refl _ _ | apply below_drewN | (refine Below.alloc ?_ (by simp) _)))⟩

set_option maxRecDepth 200000 in
set_option maxHeartbeats 2000000 in
theorem hammingSays_4 (d x : Nat) (w : World) (hd : 2048 ≤ d) (hx : 32768 ≤ x) :
    Calls Try.prog 7 #[.int .u16 d, .int .u16 x] w fun e w' => e = .returned (.bool true) ∧ Below w.heap.size w w' := by
  have dd : decide ((2047 : Int) < d) = true := by simp; omega
  have dx : decide ((32767 : Int) < x) = true := by simp; omega
  have HXX := Lib.hid hx
  have HDD := Lib.hid hd
  clear hd
  clear hx
  go_enter Try.func7, Try.ntmps7
  go_wp2_with (first | (go_at_call 34; refine (hamming_Put_bad d _ HDD.out).mono ?_; rintro e w' ⟨rfl, rfl⟩) | (go_at_call 35; refine (hamming_Get_bad x _ HXX.out).mono ?_; rintro e w' ⟨rfl, rfl⟩))
  go_ret
  exact ⟨rfl, (by repeat (first | exact Below.refl _ _ | apply below_drewN | (refine Below.alloc ?_ (by simp) _)))⟩


theorem hammingSays_walk (d x : Int) (w : World) (wd : (Lit.int .u16 d).wf = true) (wx : (Lit.int .u16 x).wf = true) :
    Calls Try.prog 7 #[.int .u16 d, .int .u16 x] w fun e w' => e = .returned (.bool true) ∧ Below w.heap.size w w' := by
  have hd : 0 ≤ d ∧ d ≤ 65535 := by simpa [Lit.wf, IntKind.min, IntKind.max, IntKind.signed, IntKind.bits] using wd
  have hx : 0 ≤ x ∧ x ≤ 65535 := by simpa [Lit.wf, IntKind.min, IntKind.max, IntKind.signed, IntKind.bits] using wx
  obtain ⟨e, rfl⟩ := Int.eq_ofNat_of_zero_le hd.1
  obtain ⟨y, rfl⟩ := Int.eq_ofNat_of_zero_le hx.1
  by_cases h1 : e < 2048
  · by_cases h2 : y < 32768
    · exact hammingSays_1 e y w h1 h2
    · exact hammingSays_3 e y w h1 (by omega)
  · by_cases h2 : y < 32768
    · exact hammingSays_2 e y w (by omega) h2
    · exact hammingSays_4 e y w (by omega) (by omega)
end Go.Proofs.Ytonphmkilikapaa
