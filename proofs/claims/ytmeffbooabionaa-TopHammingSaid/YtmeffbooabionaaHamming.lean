/- Contracts of package hamming and of the reference's words. -/
import Derived.Test.YtmeffbooabionaaRows
import Derived.Test.YtmeffbooabionaaBase
import Derived.Test.YtmeffbooabionaaHmM49
set_option linter.unusedVariables false
set_option linter.unusedSimpArgs false
namespace Go.Proofs.Ytmeffbooabionaa
open Go.RowKit

theorem u16_and_one (a : Nat) (ha : a < 65536) : bits .and .u16 (a : Int) 1 = ((a % 2 : Nat) : Int) := by
  have := u16_and_nat a 1 ha (by omega)
  rw [Nat.and_one_is_mod] at this
  exact this
/-- A bit of a word, as the walk spells it. -/
theorem u16_bit (w k : Nat) (hw : w < 65536) : bits .and .u16 ((w : Int) / 2 ^ k) 1 = (hbit w k : Int) := by
  have h1 : ((w : Int) / 2 ^ k) = ((w / 2 ^ k : Nat) : Int) := by push_cast; rfl
  rw [h1, u16_and_one _ (Nat.lt_of_le_of_lt (Nat.div_le_self _ _) hw)]; rfl

set_option maxHeartbeats 400000 in
theorem hamming_parity (a : Nat) (w : World) (h1 : 1 ≤ a) (h2 : a ≤ 15) :
    Calls Try.prog 58 #[.int .i64 a] w fun e w' => e = .returned (.bool (parB a)) ∧ w = w' := by
  have e1 : bits .and .i64 (a : Int) ((a : Int) - 1) = ((a &&& (a - 1) : Nat) : Int) := by
    have := i64_and_nat a (a - 1) (by omega) (by omega)
    rw [← this]; congr 1; omega
  have hR : Hid (((((a &&& (a - 1) : Nat)) : Int) == 0) = parB a) := by
    show _ = _
    unfold parB
    rw [Bool.eq_iff_iff]; simp
  go_enter Try.func58, Try.ntmps58
  go_wp2
  go_ret
  exact ⟨ret_bool hR.out, rfl⟩

set_option maxHeartbeats 1000000 in
theorem hamming_sum (x : Nat) (w : World) (hx : x < 65536) :
    Calls Try.prog 59 #[.int .u16 x] w fun e w' => e = .returned (.int .i64 (hsum x : Nat)) ∧ w = w' := by
  go_enter Try.func59, Try.ntmps59
  go_wp2_with fail
  go_loop [3, 4] (fun vo va => ∃ k o : Nat, va = .int .i64 ((k : Int) + 1) ∧ vo = .int .i64 o ∧ k ≤ 15 ∧ o < 16 ∧ Hid (o = hsumN k x)) (fun _ va => 16 - (intOf va).toNat)
  case atStart => exact ⟨0, 0, rfl, rfl, by omega, by omega, by show _ = _; rfl⟩
  case round =>
    obtain ⟨k, o, rfl, rfl, hk, ho, hoe⟩ := hrel
    by_cases hk15 : k < 15
    · have e1 := u16_bit x k hx
      have t1 : ((k : Int) + 1 - 1).toNat = k := by omega
      have e2 : bits .xor .i64 (o : Int) ((k : Int) + 1) = ((o ^^^ (k + 1) : Nat) : Int) := i64_xor_nat o (k + 1) (by omega) (by omega)
      have hox : o ^^^ (k + 1) < 16 := Nat.xor_lt_two_pow (n := 4) ho (by omega)
      rcases hbit_01 x k with hb | hb
      · have e3 : ((hbit x k : Int) == 1) = false := by rw [hb]; rfl
        have hn : Hid (o = hsumN (k + 1) x) := by show _ = _; rw [hsumN, if_neg (by omega)]; exact hoe.out
        clear hb
        go_wp2_with fail
        go_round
        case rel => exact ⟨k + 1, o, by go_num, rfl, by omega, ho, hn⟩
        case measure => simp [intOf]; omega
      · have e3 : ((hbit x k : Int) == 1) = true := by rw [hb]; rfl
        have hn : Hid (o ^^^ (k + 1) = hsumN (k + 1) x) := by show _ = _; rw [hsumN, if_pos hb, ← hoe.out]
        clear hb
        go_wp2_with fail
        go_round
        case rel => exact ⟨k + 1, o ^^^ (k + 1), by go_num, rfl, by omega, hox, hn⟩
        case measure => simp [intOf]; omega
    · obtain rfl : k = 15 := by omega
      go_wp2_with fail
      go_ret
      exact ⟨by rw [hoe.out]; rfl, rfl⟩

theorem pow14 (k : Nat) (hk : k < 15) : 2 ^ k ≤ 16384 := Nat.le_trans (Nat.pow_le_pow_right (by omega) (show k ≤ 14 by omega)) (by omega)
theorem int_pow (k : Nat) : ((2 : Int) ^ k) = ((2 ^ k : Nat) : Int) := by rw [Int.natCast_pow]; rfl

set_option maxHeartbeats 2000000 in
theorem hamming_Put (d : Nat) (w : World) (hd : d < 2048) :
    Calls Try.prog 30 #[.int .u16 d] w fun e w' => e = .returned (.tuple #[.int .u16 (hput d : Nat), .int .i64 0]) ∧ w = w' := by
  have dd : decide ((2048 : Int) ≤ d) = false := by simp; omega
  go_enter Try.func30, Try.ntmps30
  go_wp2_with fail
  go_loop [0, 4, 5] (fun vd vw va => ∃ k x e : Nat, va = .int .i64 ((k : Int) + 1) ∧ vw = .int .u16 x ∧ vd = .int .u16 e ∧ k ≤ 15 ∧ x < 32768 ∧ e < 65536 ∧ Hid (putN k d = (x, e))) (fun _ _ va => 16 - (intOf va).toNat)
  case atStart => exact ⟨0, 0, d, rfl, rfl, rfl, by omega, by omega, by omega, by show _ = _; rfl⟩
  case round =>
    obtain ⟨k, x, e, rfl, rfl, rfl, hk, hx, he, hpe⟩ := hrel
    by_cases hk15 : k < 15
    · cases hpb : parB (k + 1) with
      | true =>
        have hn : Hid (putN (k + 1) d = (x, e)) := by show _ = _; simp only [putN]; rw [if_pos hpb]; exact hpe.out
        have HP := Lib.hid hpb
        clear hpb
        have cp := Lib.hid (fun W => hamming_parity (k + 1) W (by omega) (by omega))
        go_wp2_with (go_at_call 58; refine (cp.out _).mono ?_; rw [HP.out]; rintro e w' ⟨rfl, rfl⟩)
        go_round
        case rel => exact ⟨k + 1, x, e, by go_num, rfl, rfl, by omega, hx, he, hn⟩
        case measure => simp [intOf]; omega
      | false =>
        have hp14 := pow14 k hk15
        have e1 := u16_and_one e he
        have t1 : ((k : Int) + 1 - 1).toNat = k := by omega
        obtain ⟨S, hS⟩ : ∃ S, e % 2 * 2 ^ k = S := ⟨_, rfl⟩
        have hS1 : S ≤ 16384 := by
          have := Nat.mul_le_mul (show e % 2 ≤ 1 by omega) hp14
          omega
        have e2 : IntKind.u16.wrap (((e : Int) % 2) * 2 ^ k) = (S : Int) := by
          have h1 : ((e : Int) % 2) * 2 ^ k = (S : Int) := by rw [← hS, int_pow]; push_cast; rfl
          rw [h1]; exact IntWalk.u16_in _ (by omega)
        have e3 := u16_or_nat x S (by omega) (by omega)
        have hxS : x ||| S < 32768 := Nat.or_lt_two_pow (n := 15) (by omega) (by omega)
        have hn : Hid (putN (k + 1) d = (x ||| S, e / 2)) := by
          show _ = _
          have h1 := hpe.out
          simp only [putN]
          rw [if_neg (by rw [hpb]; simp), h1, ← hS]
        have HP := Lib.hid hpb
        have cp := Lib.hid (fun W => hamming_parity (k + 1) W (by omega) (by omega))
        clear hpb hS hp14
        go_wp2_with (go_at_call 58; refine (cp.out _).mono ?_; rw [HP.out]; rintro e w' ⟨rfl, rfl⟩)
        go_round
        case rel => exact ⟨k + 1, x ||| S, e / 2, by go_num, by go_num, by go_num, by omega, hxS, by omega, hn⟩
        case measure => simp [intOf]; omega
    · obtain rfl : k = 15 := by omega
      have hX : Hid (x = (putN 15 d).1) := by show _ = _; rw [hpe.out]
      have hsl := hsumN_lt 15 x (by omega)
      obtain ⟨s, hs⟩ : ∃ s, hsum x = s := ⟨_, rfl⟩
      have hs16 : s < 16 := by rw [← hs]; exact hsl
      have HS := Lib.hid hs
      have cs := Lib.hid (fun W => by have := hamming_sum x W (by omega); rw [hs] at this; exact this)
      clear hs hsl
      go_wp2_with (go_at_call 59; refine (cs.out _).mono ?_; rintro e w' ⟨rfl, rfl⟩)
      go_loop [4, 7] (fun vw va => ∃ j y : Nat, va = .int .i64 (2 ^ j : Nat) ∧ vw = .int .u16 y ∧ j ≤ 4 ∧ y < 32768 ∧ Hid (y = put2 j s x)) (fun _ va => 16 - (intOf va).toNat)
      case atStart => exact ⟨0, x, rfl, rfl, by omega, hx, by show _ = _; rfl⟩
      case round =>
        obtain ⟨j, y, rfl, rfl, hj, hy, hye⟩ := hrel
        by_cases hj4 : j < 4
        · have hjj : j = 0 ∨ j = 1 ∨ j = 2 ∨ j = 3 := by omega
          rcases hjj with rfl | rfl | rfl | rfl
          · have eA : bits .and .i64 (s : Int) 1 = ((s &&& 1 : Nat) : Int) := i64_and_nat s 1 (by omega) (by omega)
            have eO : bits .or .u16 (y : Int) 1 = ((y ||| 1 : Nat) : Int) := u16_or_nat y 1 (by omega) (by omega)
            have hyo : y ||| 1 < 32768 := Nat.or_lt_two_pow (n := 15) (by omega) (by omega)
            by_cases ht : s &&& 1 = 0
            · have hb : ((s : Int) % 2 != 0) = false := by rw [Nat.and_one_is_mod] at ht; simp; omega
              have hn : Hid (y = put2 1 s x) := by
                show _ = _
                simp only [put2]
                rw [if_neg (by simpa using ht)]; exact hye.out
              clear ht
              go_wp2_with fail
              go_round
              case rel => exact ⟨1, y, by go_num, rfl, by omega, hy, hn⟩
              case measure => simp [intOf]
            · have hb : ((s : Int) % 2 != 0) = true := by rw [Nat.and_one_is_mod] at ht; simp; omega
              have hn : Hid (y ||| 1 = put2 1 s x) := by
                show _ = _
                have h1 : put2 1 s x = if s &&& 2 ^ 0 ≠ 0 then put2 0 s x ||| 2 ^ (2 ^ 0 - 1) else put2 0 s x := rfl
                rw [h1, if_pos (by simpa using ht), ← hye.out]
              clear ht
              go_wp2_with fail
              go_round
              case rel => exact ⟨1, y ||| 1, by go_num, rfl, by omega, hyo, hn⟩
              case measure => simp [intOf]
          · have eA : bits .and .i64 (s : Int) 2 = ((s &&& 2 : Nat) : Int) := i64_and_nat s 2 (by omega) (by omega)
            have eO : bits .or .u16 (y : Int) 2 = ((y ||| 2 : Nat) : Int) := u16_or_nat y 2 (by omega) (by omega)
            have hyo : y ||| 2 < 32768 := Nat.or_lt_two_pow (n := 15) (by omega) (by omega)
            by_cases ht : s &&& 2 = 0
            · have hb : (((s &&& 2 : Nat) : Int) != 0) = false := by rw [ht]; rfl
              have hn : Hid (y = put2 2 s x) := by
                show _ = _
                simp only [put2]
                rw [if_neg (by simpa using ht)]; exact hye.out
              clear ht
              go_wp2_with fail
              go_round
              case rel => exact ⟨2, y, by go_num, rfl, by omega, hy, hn⟩
              case measure => simp [intOf]
            · have hb : (((s &&& 2 : Nat) : Int) != 0) = true := by simp; omega
              have hn : Hid (y ||| 2 = put2 2 s x) := by
                show _ = _
                have h1 : put2 2 s x = if s &&& 2 ^ 1 ≠ 0 then put2 1 s x ||| 2 ^ (2 ^ 1 - 1) else put2 1 s x := rfl
                rw [h1, if_pos (by simpa using ht), ← hye.out]
              clear ht
              go_wp2_with fail
              go_round
              case rel => exact ⟨2, y ||| 2, by go_num, rfl, by omega, hyo, hn⟩
              case measure => simp [intOf]
          · have eA : bits .and .i64 (s : Int) 4 = ((s &&& 4 : Nat) : Int) := i64_and_nat s 4 (by omega) (by omega)
            have eO : bits .or .u16 (y : Int) 8 = ((y ||| 8 : Nat) : Int) := u16_or_nat y 8 (by omega) (by omega)
            have hyo : y ||| 8 < 32768 := Nat.or_lt_two_pow (n := 15) (by omega) (by omega)
            by_cases ht : s &&& 4 = 0
            · have hb : (((s &&& 4 : Nat) : Int) != 0) = false := by rw [ht]; rfl
              have hn : Hid (y = put2 3 s x) := by
                show _ = _
                simp only [put2]
                rw [if_neg (by simpa using ht)]; exact hye.out
              clear ht
              go_wp2_with fail
              go_round
              case rel => exact ⟨3, y, by go_num, rfl, by omega, hy, hn⟩
              case measure => simp [intOf]
            · have hb : (((s &&& 4 : Nat) : Int) != 0) = true := by simp; omega
              have hn : Hid (y ||| 8 = put2 3 s x) := by
                show _ = _
                have h1 : put2 3 s x = if s &&& 2 ^ 2 ≠ 0 then put2 2 s x ||| 2 ^ (2 ^ 2 - 1) else put2 2 s x := rfl
                rw [h1, if_pos (by simpa using ht), ← hye.out]
              clear ht
              go_wp2_with fail
              go_round
              case rel => exact ⟨3, y ||| 8, by go_num, rfl, by omega, hyo, hn⟩
              case measure => simp [intOf]
          · have eA : bits .and .i64 (s : Int) 8 = ((s &&& 8 : Nat) : Int) := i64_and_nat s 8 (by omega) (by omega)
            have eO : bits .or .u16 (y : Int) 128 = ((y ||| 128 : Nat) : Int) := u16_or_nat y 128 (by omega) (by omega)
            have hyo : y ||| 128 < 32768 := Nat.or_lt_two_pow (n := 15) (by omega) (by omega)
            by_cases ht : s &&& 8 = 0
            · have hb : (((s &&& 8 : Nat) : Int) != 0) = false := by rw [ht]; rfl
              have hn : Hid (y = put2 4 s x) := by
                show _ = _
                simp only [put2]
                rw [if_neg (by simpa using ht)]; exact hye.out
              clear ht
              go_wp2_with fail
              go_round
              case rel => exact ⟨4, y, by go_num, rfl, by omega, hy, hn⟩
              case measure => simp [intOf]
            · have hb : (((s &&& 8 : Nat) : Int) != 0) = true := by simp; omega
              have hn : Hid (y ||| 128 = put2 4 s x) := by
                show _ = _
                have h1 : put2 4 s x = if s &&& 2 ^ 3 ≠ 0 then put2 3 s x ||| 2 ^ (2 ^ 3 - 1) else put2 3 s x := rfl
                rw [h1, if_pos (by simpa using ht), ← hye.out]
              clear ht
              go_wp2_with fail
              go_round
              case rel => exact ⟨4, y ||| 128, by go_num, rfl, by omega, hyo, hn⟩
              case measure => simp [intOf]
        · obtain rfl : j = 4 := by omega
          have hfin : Hid (y = hput d) := by
            show _ = _
            rw [hye.out]; unfold hput
            rw [← hX.out, HS.out]
          go_wp2_with fail
          go_ret2
          exact ⟨by rw [hfin.out]; rfl, rfl⟩

set_option maxRecDepth 20000 in
set_option maxHeartbeats 400000 in
theorem hamming_Put_bad (d : Nat) (w : World) (hd : 2048 ≤ d) :
    Calls Try.prog 30 #[.int .u16 d] w fun e w' => e = .returned (.tuple #[.int .u16 0, .int .i64 1]) ∧ w = w' := by
  go_enter Try.func30, Try.ntmps30
  go_wp2_with fail
  go_ret2
  exact ⟨rfl, rfl⟩

set_option maxHeartbeats 2000000 in
theorem hamming_Get (x : Nat) (w : World) (hx : x < 32768) :
    Calls Try.prog 32 #[.int .u16 x] w fun e w' => e = .returned (.tuple #[.int .u16 (hdata (turn x (hsum x)) : Nat), .int .i64 (hsum x : Nat), .int .i64 0]) ∧ w = w' := by
  have dd : decide ((32768 : Int) ≤ x) = false := by simp; omega
  have hsl := hsumN_lt 15 x (by omega)
  obtain ⟨s, hs⟩ : ∃ s, hsum x = s := ⟨_, rfl⟩
  have hs16 : s < 16 := by rw [← hs]; exact hsl
  have cs := Lib.hid (fun W => by have := hamming_sum x W (by omega); rw [hs] at this; exact this)
  rw [hs]
  obtain ⟨y, hy⟩ : ∃ y, turn x s = y := ⟨_, rfl⟩
  have hyl : y < 32768 := by rw [← hy]; exact turn_lt x s hx (by omega)
  rw [hy]
  clear hs hsl
  have HY := Lib.hid hy
  clear hy
  by_cases hs0 : s = 0
  · have hxy : x = y := by have := HY.out; rw [hs0] at this; simpa [turn] using this
    subst hxy
    subst hs0
    go_enter Try.func32, Try.ntmps32
    go_wp2_with (go_at_call 59; refine (cs.out _).mono ?_; rintro e w' ⟨rfl, rfl⟩)
    go_loop [6, 7, 8] (fun vd vk va => ∃ k dt c : Nat, va = .int .i64 ((k : Int) + 1) ∧ vk = .int .i64 c ∧ vd = .int .u16 dt ∧ k ≤ 15 ∧ c ≤ 15 ∧ dt < 65536 ∧ Hid (c ≤ k) ∧ Hid (getN k x = (dt, c))) (fun _ _ va => 16 - (intOf va).toNat)
    case atStart => exact ⟨0, 0, 0, rfl, rfl, rfl, by omega, by omega, by omega, by show _ ≤ _; omega, by show _ = _; rfl⟩
    case round =>
      obtain ⟨k, dt, c, rfl, rfl, rfl, hk, hc, hdt, hck, hge⟩ := hrel
      by_cases hk15 : k < 15
      · cases hpb : parB (k + 1) with
        | true =>
          have hn : Hid (getN (k + 1) x = (dt, c)) := by show _ = _; simp only [getN]; rw [if_pos hpb]; exact hge.out
          have hck2 : Hid (c ≤ k + 1) := Nat.le_succ_of_le hck.out
          have HP := Lib.hid hpb
          clear hpb
          have cp := Lib.hid (fun W => hamming_parity (k + 1) W (by omega) (by omega))
          go_wp2_with (go_at_call 58; refine (cp.out _).mono ?_; rw [HP.out]; rintro e w' ⟨rfl, rfl⟩)
          go_round
          case rel => exact ⟨k + 1, dt, c, by go_num, rfl, rfl, by omega, hc, hdt, hck2, hn⟩
          case measure => simp [intOf]; omega
        | false =>
          have hc14 : c ≤ 14 := by have := hck.out; omega
          have hp14 := pow14 c (by omega)
          have e1 := u16_bit x k (by omega)
          have t1 : ((k : Int) + 1 - 1).toNat = k := by omega
          obtain ⟨S, hS⟩ : ∃ S, hbit x k * 2 ^ c = S := ⟨_, rfl⟩
          have hS1 : S ≤ 16384 := by
            have h1 : hbit x k ≤ 1 := by have := hbit_01 x k; omega
            have := Nat.mul_le_mul h1 hp14
            omega
          have e2 : IntKind.u16.wrap ((hbit x k : Int) * 2 ^ c) = (S : Int) := by
            have h1 : (hbit x k : Int) * 2 ^ c = (S : Int) := by rw [← hS, int_pow]; push_cast; rfl
            rw [h1]; exact IntWalk.u16_in _ (by omega)
          have e3 := u16_or_nat dt S (by omega) (by omega)
          have hdS : dt ||| S < 65536 := Nat.or_lt_two_pow (n := 16) (by omega) (by omega)
          have hn : Hid (getN (k + 1) x = (dt ||| S, c + 1)) := by
            show _ = _
            have h1 := hge.out
            simp only [getN]
            rw [if_neg (by rw [hpb]; simp), h1, ← hS]
          have hck2 : Hid (c + 1 ≤ k + 1) := Nat.succ_le_succ hck.out
          have HP := Lib.hid hpb
          have cp := Lib.hid (fun W => hamming_parity (k + 1) W (by omega) (by omega))
          clear hpb hS hp14
          go_wp2_with (go_at_call 58; refine (cp.out _).mono ?_; rw [HP.out]; rintro e w' ⟨rfl, rfl⟩)
          go_round
          case rel => exact ⟨k + 1, dt ||| S, c + 1, by go_num, by go_num, rfl, by omega, by omega, hdS, hck2, hn⟩
          case measure => simp [intOf]; omega
      · obtain rfl : k = 15 := by omega
        have hfin : Hid (dt = hdata x) := by show _ = _; unfold hdata; rw [hge.out]
        go_wp2_with fail
        go_ret3
        exact ⟨by rw [hfin.out]; rfl, rfl⟩
  · have t1 : ((s : Int) - 1).toNat = s - 1 := by omega
    have ds : decide (0 < s) = true := by simp; omega
    obtain ⟨M, hM⟩ : ∃ M, 2 ^ (s - 1) = M := ⟨_, rfl⟩
    have hMb : M ≤ 16384 := by rw [← hM]; exact pow14 _ (by omega)
    have e0 : IntKind.u16.wrap ((2 : Int) ^ (s - 1)) = (M : Int) := by
      rw [int_pow, hM]; exact IntWalk.u16_in _ (by omega)
    have e0' : bits .xor .u16 (x : Int) (M : Int) = (y : Int) := by
      rw [u16_xor_nat x M (by omega) (by omega), ← HY.out]
      unfold turn
      rw [if_neg hs0, hM]
    clear hM
    go_enter Try.func32, Try.ntmps32
    go_wp2_with (go_at_call 59; refine (cs.out _).mono ?_; rintro e w' ⟨rfl, rfl⟩)
    clear t1
    go_loop [6, 7, 8] (fun vd vk va => ∃ k dt c : Nat, va = .int .i64 ((k : Int) + 1) ∧ vk = .int .i64 c ∧ vd = .int .u16 dt ∧ k ≤ 15 ∧ c ≤ 15 ∧ dt < 65536 ∧ Hid (c ≤ k) ∧ Hid (getN k y = (dt, c))) (fun _ _ va => 16 - (intOf va).toNat)
    case atStart => exact ⟨0, 0, 0, rfl, rfl, rfl, by omega, by omega, by omega, by show _ ≤ _; omega, by show _ = _; rfl⟩
    case round =>
      obtain ⟨k, dt, c, rfl, rfl, rfl, hk, hc, hdt, hck, hge⟩ := hrel
      by_cases hk15 : k < 15
      · cases hpb : parB (k + 1) with
        | true =>
          have hn : Hid (getN (k + 1) y = (dt, c)) := by show _ = _; simp only [getN]; rw [if_pos hpb]; exact hge.out
          have hck2 : Hid (c ≤ k + 1) := Nat.le_succ_of_le hck.out
          have HP := Lib.hid hpb
          clear hpb
          have cp := Lib.hid (fun W => hamming_parity (k + 1) W (by omega) (by omega))
          go_wp2_with (go_at_call 58; refine (cp.out _).mono ?_; rw [HP.out]; rintro e w' ⟨rfl, rfl⟩)
          go_round
          case rel => exact ⟨k + 1, dt, c, by go_num, rfl, rfl, by omega, hc, hdt, hck2, hn⟩
          case measure => simp [intOf]; omega
        | false =>
          have hc14 : c ≤ 14 := by have := hck.out; omega
          have hp14 := pow14 c (by omega)
          have e1 := u16_bit y k (by omega)
          have t1 : ((k : Int) + 1 - 1).toNat = k := by omega
          obtain ⟨S, hS⟩ : ∃ S, hbit y k * 2 ^ c = S := ⟨_, rfl⟩
          have hS1 : S ≤ 16384 := by
            have h1 : hbit y k ≤ 1 := by have := hbit_01 y k; omega
            have := Nat.mul_le_mul h1 hp14
            omega
          have e2 : IntKind.u16.wrap ((hbit y k : Int) * 2 ^ c) = (S : Int) := by
            have h1 : (hbit y k : Int) * 2 ^ c = (S : Int) := by rw [← hS, int_pow]; push_cast; rfl
            rw [h1]; exact IntWalk.u16_in _ (by omega)
          have e3 := u16_or_nat dt S (by omega) (by omega)
          have hdS : dt ||| S < 65536 := Nat.or_lt_two_pow (n := 16) (by omega) (by omega)
          have hn : Hid (getN (k + 1) y = (dt ||| S, c + 1)) := by
            show _ = _
            have h1 := hge.out
            simp only [getN]
            rw [if_neg (by rw [hpb]; simp), h1, ← hS]
          have hck2 : Hid (c + 1 ≤ k + 1) := Nat.succ_le_succ hck.out
          have HP := Lib.hid hpb
          have cp := Lib.hid (fun W => hamming_parity (k + 1) W (by omega) (by omega))
          clear hpb hS hp14
          go_wp2_with (go_at_call 58; refine (cp.out _).mono ?_; rw [HP.out]; rintro e w' ⟨rfl, rfl⟩)
          go_round
          case rel => exact ⟨k + 1, dt ||| S, c + 1, by go_num, by go_num, rfl, by omega, by omega, hdS, hck2, hn⟩
          case measure => simp [intOf]; omega
      · obtain rfl : k = 15 := by omega
        have hfin : Hid (dt = hdata y) := by show _ = _; unfold hdata; rw [hge.out]
        go_wp2_with fail
        go_ret3
        exact ⟨by rw [hfin.out]; rfl, rfl⟩

set_option maxRecDepth 200000 in
set_option maxHeartbeats 400000 in
theorem hamming_Get_bad (x : Nat) (w : World) (hx : 32768 ≤ x) :
    Calls Try.prog 32 #[.int .u16 x] w fun e w' => e = .returned (.tuple #[.int .u16 0, .int .i64 0, .int .i64 1]) ∧ w = w' := by
  have dd : decide ((32768 : Int) ≤ x) = true := by simp; omega
  have HX := Lib.hid hx
  clear hx
  go_enter Try.func32, Try.ntmps32
  go_wp2_with fail
  go_ret3
  exact ⟨rfl, rfl⟩
end Go.Proofs.Ytmeffbooabionaa
