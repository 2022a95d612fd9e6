/- Powers, logarithms, the other road to the product: plain arithmetic. -/
import Derived.Test.YtioecklnijhjgaaPlM3
import Derived.Test.YtioecklnijhjgaaRows
import Derived.Test.YtioecklnijhjgaaPlM0
set_option linter.unusedVariables false
set_option linter.unusedSimpArgs false
namespace Go.Proofs.Ytioecklnijhjgaa

def gpow (a : Nat) : Nat → Nat
  | 0 => 1
  | n + 1 => gmul (gpow a n) a
theorem gpow_lt {a : Nat} (n : Nat) : gpow a n < 256 := by
  induction n with
  | zero => simp [gpow]
  | succ n ih => exact gmul_lt ih
theorem gpow_one {a : Nat} (ha : a < 256) : gpow a 1 = a := by simp only [gpow]; exact one_gmul ha
theorem gpow_add {a : Nat} (ha : a < 256) (m n : Nat) : gpow a (m + n) = gmul (gpow a m) (gpow a n) := by
  induction n with
  | zero => simp only [gpow, Nat.add_zero]; rw [gmul_one (gpow_lt m)]
  | succ n ih => rw [← Nat.add_assoc]; simp only [gpow]; rw [ih, gmul_assoc (gpow_lt m) (gpow_lt n) ha]
theorem gpow_sq {a : Nat} (ha : a < 256) (n : Nat) : gpow (gmul a a) n = gpow a (2 * n) := by
  induction n with
  | zero => rfl
  | succ n ih =>
    have e : 2 * (n + 1) = 2 * n + 2 := by omega
    rw [e, gpow_add ha]
    have h2 : gpow a 2 = gmul a a := by simp only [gpow]; rw [one_gmul ha]
    simp only [gpow] at h2 ⊢
    rw [ih, h2]
theorem ginv_pow {a : Nat} (ha : a < 256) : ginv a = gpow a 254 := by
  have h2 : gmul a a = gpow a 2 := by simp only [gpow]; rw [one_gmul ha]
  have hs : ∀ n, gmul (gpow a n) (gpow a n) = gpow a (n + n) := fun n => (gpow_add ha n n).symm
  unfold ginv
  simp only [h2, hs, ← gpow_add ha]
theorem gpow_255 {a : Nat} (ha : a < 256) (h0 : a ≠ 0) : gpow a 255 = 1 := by
  show gmul (gpow a 254) a = 1
  rw [← ginv_pow ha, gmul_comm (ginv_lt ha) ha, gmul_ginv ha h0]
theorem gpow_zero_succ (n : Nat) : gpow 0 (n + 1) = 0 := gmul_zero _
theorem gpow_period {a : Nat} (ha : a < 256) (n : Nat) (hn : 1 ≤ n) : gpow a (n + 255) = gpow a n := by
  by_cases h0 : a = 0
  · subst h0
    obtain ⟨m, rfl⟩ : ∃ m, n = m + 1 := ⟨n - 1, by omega⟩
    rw [show m + 1 + 255 = (m + 255) + 1 by omega, gpow_zero_succ, gpow_zero_succ]
  · rw [gpow_add ha, gpow_255 ha h0, gmul_one (gpow_lt n)]
theorem gpow_red {a : Nat} (ha : a < 256) (n : Nat) (hn : 1 ≤ n) : gpow a ((n - 1) % 255 + 1) = gpow a n := by
  have H : ∀ q r, gpow a (r + 1 + 255 * q) = gpow a (r + 1) := by
    intro q r
    induction q with
    | zero => rfl
    | succ q ih => rw [show r + 1 + 255 * (q + 1) = (r + 1 + 255 * q) + 255 by omega, gpow_period ha _ (by omega), ih]
  have e : n = (n - 1) % 255 + 1 + 255 * ((n - 1) / 255) := by omega
  conv => rhs; rw [e]
  rw [H]

def powList : Nat → Nat → List Nat
  | 0, _ => []
  | f + 1, x => x :: powList f (xt x)
set_option maxRecDepth 100000 in
theorem powList_eq : powList 255 1 = [1, 2, 4, 8, 16, 32, 64, 128, 29, 58, 116, 232, 205, 135, 19, 38, 76, 152, 45, 90, 180, 117, 234, 201, 143, 3, 6, 12, 24, 48, 96, 192, 157, 39, 78, 156, 37, 74, 148, 53, 106, 212, 181, 119, 238, 193, 159, 35, 70, 140, 5, 10, 20, 40, 80, 160, 93, 186, 105, 210, 185, 111, 222, 161, 95, 190, 97, 194, 153, 47, 94, 188, 101, 202, 137, 15, 30, 60, 120, 240, 253, 231, 211, 187, 107, 214, 177, 127, 254, 225, 223, 163, 91, 182, 113, 226, 217, 175, 67, 134, 17, 34, 68, 136, 13, 26, 52, 104, 208, 189, 103, 206, 129, 31, 62, 124, 248, 237, 199, 147, 59, 118, 236, 197, 151, 51, 102, 204, 133, 23, 46, 92, 184, 109, 218, 169, 79, 158, 33, 66, 132, 21, 42, 84, 168, 77, 154, 41, 82, 164, 85, 170, 73, 146, 57, 114, 228, 213, 183, 115, 230, 209, 191, 99, 198, 145, 63, 126, 252, 229, 215, 179, 123, 246, 241, 255, 227, 219, 171, 75, 150, 49, 98, 196, 149, 55, 110, 220, 165, 87, 174, 65, 130, 25, 50, 100, 200, 141, 7, 14, 28, 56, 112, 224, 221, 167, 83, 166, 81, 162, 89, 178, 121, 242, 249, 239, 195, 155, 43, 86, 172, 69, 138, 9, 18, 36, 72, 144, 61, 122, 244, 245, 247, 243, 251, 235, 203, 139, 11, 22, 44, 88, 176, 125, 250, 233, 207, 131, 27, 54, 108, 216, 173, 71, 142] := by decide +kernel
theorem gmul_two {x : Nat} (h : x < 256) : gmul x 2 = xt x := by simp [gmul, gm]
theorem powList_get (f x k : Nat) (hk : k < f) (hx : x < 256) : (powList f x)[k]? = some (gmul x (gpow 2 k)) := by
  induction f generalizing x k with
  | zero => omega
  | succ f ih =>
    cases k with
    | zero => simp [powList, gpow, gmul_one hx]
    | succ k =>
      simp only [powList, List.getElem?_cons_succ]
      have h1 : gpow 2 (k + 1) = gmul (gpow 2 k) 2 := rfl
      have h2 : gmul (xt x) (gpow 2 k) = gmul x (gpow 2 (k + 1)) := by
        rw [h1, ← gmul_two hx, gmul_assoc hx (show 2 < 256 by omega) (gpow_lt k), gmul_comm (show 2 < 256 by omega) (gpow_lt k)]
      rw [ih _ _ (by omega) (xt_lt hx), h2]
theorem powList_length (f x : Nat) : (powList f x).length = f := by
  induction f generalizing x with
  | zero => rfl
  | succ f ih => simp [powList, ih]
set_option maxRecDepth 100000 in
theorem powList_all : ∀ a : Fin 256, a.val ≠ 0 → (powList 255 1).contains a.val = true := by
  rw [powList_eq]; decide +kernel
theorem log_exists {a : Nat} (ha : a < 256) (h0 : a ≠ 0) : ∃ k, k < 255 ∧ gpow 2 k = a := by
  have h1 := powList_all ⟨a, ha⟩ h0
  simp only [List.contains_iff_mem] at h1
  obtain ⟨k, hk⟩ := List.getElem?_of_mem h1
  have hl : (powList 255 1).length = 255 := powList_length _ _
  have hk2 : k < 255 := by have := (List.getElem?_eq_some_iff.1 hk).1; omega
  rw [powList_get 255 1 k hk2 (by omega), one_gmul (gpow_lt k)] at hk
  exact ⟨k, hk2, by simpa using hk⟩
/-- The logarithm to the base 2: the first exponent. -/
noncomputable def glog (a : Nat) : Nat := Classical.epsilon fun k => gpow 2 k = a ∧ ∀ j, j < k → gpow 2 j ≠ a
theorem first_exists {p : Nat → Prop} {k : Nat} (h : p k) : ∃ m, m ≤ k ∧ p m ∧ ∀ j, j < m → ¬ p j := by
  induction k using Nat.strongRecOn with
  | _ k ih =>
    by_cases hh : ∃ j, j < k ∧ p j
    · obtain ⟨j, hj, hp⟩ := hh
      obtain ⟨m, hm, h2⟩ := ih j hj hp
      exact ⟨m, by omega, h2⟩
    · exact ⟨k, Nat.le_refl _, h, fun j hj hp => hh ⟨j, hj, hp⟩⟩
theorem glog_spec {a : Nat} (ha : a < 256) (h0 : a ≠ 0) : glog a < 255 ∧ gpow 2 (glog a) = a ∧ ∀ j, j < glog a → gpow 2 j ≠ a := by
  obtain ⟨k, hk, he⟩ := log_exists ha h0
  obtain ⟨m, hm, h1, h2⟩ := first_exists (p := fun k => gpow 2 k = a) he
  have hs := Classical.epsilon_spec (p := fun k => gpow 2 k = a ∧ ∀ j, j < k → gpow 2 j ≠ a) ⟨m, h1, h2⟩
  refine ⟨?_, hs.1, hs.2⟩
  rcases Nat.lt_or_ge (glog a) 255 with h3 | h3
  · exact h3
  · exact absurd he (hs.2 k (Nat.lt_of_lt_of_le hk h3))

/-! ### The reference's product -/
def cmulN : Nat → Nat → Nat → Nat
  | 0, _, _ => 0
  | i + 1, a, b => cmulN i a b ^^^ (a / 2 ^ i % 2 * b) * 2 ^ i
def redN : Nat → Nat → Nat
  | 0, x => x
  | j + 1, x => redN j (if x / 2 ^ (j + 8) % 2 = 1 then x ^^^ 285 * 2 ^ j else x)
def timesN (a b : Nat) : Nat := redN 7 (cmulN 8 a b) % 256
theorem mul_pow_xor (x y i : Nat) : (x ^^^ y) * 2 ^ i = x * 2 ^ i ^^^ y * 2 ^ i := by
  rw [← Nat.shiftLeft_eq, ← Nat.shiftLeft_eq, ← Nat.shiftLeft_eq, Nat.shiftLeft_xor_distrib]
theorem div_pow_xor (x y i : Nat) : (x ^^^ y) / 2 ^ i = x / 2 ^ i ^^^ y / 2 ^ i := by
  rw [← Nat.shiftRight_eq_div_pow, ← Nat.shiftRight_eq_div_pow, ← Nat.shiftRight_eq_div_pow, Nat.shiftRight_xor_distrib]
theorem bit_xor (x y i : Nat) : (x ^^^ y) / 2 ^ i % 2 = (x / 2 ^ i % 2 ^^^ y / 2 ^ i % 2) := by rw [div_pow_xor, mod2_xor]
theorem cmulN_right (i a b b' : Nat) : cmulN i a (b ^^^ b') = cmulN i a b ^^^ cmulN i a b' := by
  induction i with
  | zero => simp [cmulN]
  | succ i ih =>
    simp only [cmulN]
    rw [ih, xor4]
    congr 1
    rcases Nat.mod_two_eq_zero_or_one (a / 2 ^ i) with h | h <;> simp [h, mul_pow_xor]
theorem cmulN_left (i a a' b : Nat) : cmulN i (a ^^^ a') b = cmulN i a b ^^^ cmulN i a' b := by
  induction i with
  | zero => simp [cmulN]
  | succ i ih =>
    simp only [cmulN]
    rw [ih, xor4, bit_xor]
    congr 1
    rcases Nat.mod_two_eq_zero_or_one (a / 2 ^ i) with h | h <;> rcases Nat.mod_two_eq_zero_or_one (a' / 2 ^ i) with h' | h' <;> simp [h, h']
theorem redN_xor (j x y : Nat) : redN j (x ^^^ y) = redN j x ^^^ redN j y := by
  induction j generalizing x y with
  | zero => rfl
  | succ j ih =>
    simp only [redN]
    rw [← ih, bit_xor]
    congr 1
    generalize 285 * 2 ^ j = c
    rcases Nat.mod_two_eq_zero_or_one (x / 2 ^ (j + 8)) with h | h <;> rcases Nat.mod_two_eq_zero_or_one (y / 2 ^ (j + 8)) with h' | h' <;> simp [h, h']
    · rw [Nat.xor_assoc]
    · rw [Nat.xor_assoc, Nat.xor_assoc, Nat.xor_comm c]
    · rw [xor4, Nat.xor_self, Nat.xor_zero]
theorem timesN_right (a b b' : Nat) : timesN a (b ^^^ b') = timesN a b ^^^ timesN a b' := by
  unfold timesN; rw [cmulN_right, redN_xor, Nat.xor_mod_two_pow (n := 8)]
theorem timesN_left (a a' b : Nat) : timesN (a ^^^ a') b = timesN a b ^^^ timesN a' b := by
  unfold timesN; rw [cmulN_left, redN_xor, Nat.xor_mod_two_pow (n := 8)]
theorem timesN_eq {a b : Nat} (ha : a < 256) (hb : b < 256) : timesN a b = gmul a b := by
  refine lin_ext (fun x => timesN x b) (fun x => gmul x b) (fun x y _ _ => timesN_left x y b) (fun x y hx hy => gmul_left b hx hy) (fun k hk => ?_) a ha
  refine lin_ext (fun y => timesN (2 ^ k) y) (fun y => gmul (2 ^ k) y) (fun x y _ _ => timesN_right _ x y) (fun x y _ _ => gmul_right _ x y) (fun j hj => ?_) b hb
  have H : ∀ k : Fin 8, ∀ j : Fin 8, timesN (2 ^ k.val) (2 ^ j.val) = gmul (2 ^ k.val) (2 ^ j.val) := by decide +kernel
  exact H ⟨k, hk⟩ ⟨j, hj⟩
end Go.Proofs.Ytioecklnijhjgaa
namespace Go.Proofs.Ytioecklnijhjgaa
open Go.RowKit

theorem gm_zero (f a o : Nat) : gm f a 0 o = o := by
  induction f generalizing a with
  | zero => rfl
  | succ f ih => simp only [gm]; exact ih _
theorem ret_u8 {a b : Nat} (h : a = b) : Ending.returned (.int .u8 (a : Int)) = .returned (.int .u8 (b : Int)) := by rw [h]

theorem u8_and_one (a : Nat) (ha : a < 256) : bits .and .u8 (a : Int) 1 = ((a % 2 : Nat) : Int) := by
  have := u8_and_nat a 1 ha (by omega)
  rw [Nat.and_one_is_mod] at this
  exact this
set_option maxHeartbeats 1000000 in
theorem field_Mul (a b : Nat) (w : World) (ha : a < 256) (hb : b < 256) :
    Calls Try.prog 72 #[.int .u8 a, .int .u8 b] w fun e w' => e = .returned (.int .u8 (gmul a b : Nat)) ∧ w = w' := by
  go_enter Try.func72, Try.ntmps72
  go_wp2_with fail
  go_loop [1, 5, 6] (fun vb vx vo => ∃ y x o f : Nat, vb = .int .u8 y ∧ vx = .int .i64 x ∧ vo = .int .i64 o ∧ y < 256 ∧ x < 256 ∧ o < 256 ∧ Hid (y < 2 ^ f) ∧ Hid (gm f x y o = gmul a b)) (fun vb _ _ => (intOf vb).toNat)
  case atStart => exact ⟨b, a, 0, 8, rfl, rfl, rfl, hb, ha, by omega, hb, by show _ = _; unfold gmul; rfl⟩
  case round =>
    obtain ⟨y, x, o, f, rfl, rfl, rfl, hy, hx, ho, hf, hg⟩ := hrel
    by_cases h0 : y = 0
    · subst h0
      have hR : Hid (o = gmul a b) := by have := hg.out; rw [gm_zero] at this; exact this
      go_wp2_with fail
      go_ret
      exact ⟨ret_u8 hR.out, rfl⟩
    · have hx1 := i64_xor_nat o x (by omega) (by omega)
      have hx2 : bits .xor .i64 ((x : Int) * 2) 285 = ((x * 2 ^^^ 285 : Nat) : Int) := i64_xor_nat (x * 2) 285 (by omega) (by omega)
      obtain ⟨f, rfl⟩ : ∃ f', f = f' + 1 := by
        cases f with
        | zero => have := hf.out; simp at this; omega
        | succ f => exact ⟨f, rfl⟩
      have hf2 : Hid (y / 2 < 2 ^ f) := by have := hf.out; rw [Nat.pow_succ] at this; show _ < _; omega
      have hox := xor_lt256 ho hx
      have hg2 : Hid (gm f (xt x) (y / 2) (if y % 2 = 1 then o ^^^ x else o) = gmul a b) := hg.out
      have hxl := xt_lt hx
      have hlt : Hid (y / 2 < y) := Nat.div_lt_self (by omega) (by omega)
      have hpar : (y % 2 = 1 ∧ (bits .and .u8 (y : Int) 1 == 1) = true) ∨ (y % 2 = 0 ∧ (bits .and .u8 (y : Int) 1 == 1) = false) := by
        rw [u8_and_one y hy]
        rcases Nat.mod_two_eq_zero_or_one y with h | h <;> simp [h]
      by_cases h2 : 255 < x * 2
      · have hxt : Hid (x * 2 ^^^ 285 = xt x) := by show _ = _; unfold xt; rw [if_pos h2]
        rcases hpar with ⟨hp, hpb⟩ | ⟨hp, hpb⟩
        · have hg3 : Hid (gm f (xt x) (y / 2) (o ^^^ x) = gmul a b) := by have := hg2.out; rw [if_pos hp] at this; exact this
          clear hp
          go_wp2_with fail
          go_round
          case rel => exact ⟨y / 2, xt x, o ^^^ x, f, by go_num, by rw [← hxt.out], rfl, by omega, hxl, hox, hf2, hg3⟩
          case measure => have := hlt.out; simp [intOf]; omega
        · have hg3 : Hid (gm f (xt x) (y / 2) o = gmul a b) := by have := hg2.out; rw [if_neg (by omega)] at this; exact this
          clear hp
          go_wp2_with fail
          go_round
          case rel => exact ⟨y / 2, xt x, o, f, by go_num, by rw [← hxt.out], rfl, by omega, hxl, ho, hf2, hg3⟩
          case measure => have := hlt.out; simp [intOf]; omega
      · have hxt : Hid (x * 2 = xt x) := by show _ = _; unfold xt; rw [if_neg h2]
        rcases hpar with ⟨hp, hpb⟩ | ⟨hp, hpb⟩
        · have hg3 : Hid (gm f (xt x) (y / 2) (o ^^^ x) = gmul a b) := by have := hg2.out; rw [if_pos hp] at this; exact this
          clear hp
          go_wp2_with fail
          go_round
          case rel => exact ⟨y / 2, xt x, o ^^^ x, f, by go_num, by rw [← hxt.out]; rfl, rfl, by omega, hxl, hox, hf2, hg3⟩
          case measure => have := hlt.out; simp [intOf]; omega
        · have hg3 : Hid (gm f (xt x) (y / 2) o = gmul a b) := by have := hg2.out; rw [if_neg (by omega)] at this; exact this
          clear hp
          go_wp2_with fail
          go_round
          case rel => exact ⟨y / 2, xt x, o, f, by go_num, by rw [← hxt.out]; rfl, rfl, by omega, hxl, ho, hf2, hg3⟩
          case measure => have := hlt.out; simp [intOf]; omega

set_option maxHeartbeats 1000000 in
theorem field_Pow (a n : Nat) (w : World) (ha : a < 256) (hn : n < 9223372036854775808) :
    Calls Try.prog 85 #[.int .u8 a, .int .i64 n] w fun e w' => e = .returned (.tuple #[.int .u8 (gpow a n : Nat), .int .i64 0]) ∧ w = w' := by
  go_enter Try.func85, Try.ntmps85
  go_wp2_with fail
  go_loop [0, 1, 6] (fun va vn vo => ∃ x m o : Nat, va = .int .u8 x ∧ vn = .int .i64 m ∧ vo = .int .u8 o ∧ x < 256 ∧ m < 9223372036854775808 ∧ o < 256 ∧ Hid (gmul o (gpow x m) = gpow a n)) (fun _ vn _ => (intOf vn).toNat)
  case atStart => exact ⟨a, n, 1, rfl, rfl, rfl, ha, hn, by omega, by show _ = _; rw [one_gmul (gpow_lt n)]⟩
  case round =>
    obtain ⟨x, m, o, rfl, rfl, rfl, hx, hm, ho, hg⟩ := hrel
    by_cases h0 : m = 0
    · subst h0
      have hR : Hid (o = gpow a n) := by have := hg.out; simp only [gpow] at this; rw [gmul_one ho] at this; exact this
      go_wp2_with fail
      go_ret2
      exact ⟨by rw [← hR.out]; rfl, rfl⟩
    · have hpar : (m % 2 = 1 ∧ (bits .and .i64 (m : Int) 1 == 1) = true) ∨ (m % 2 = 0 ∧ (bits .and .i64 (m : Int) 1 == 1) = false) := by
        rw [i64_and_one m hm]
        rcases Nat.mod_two_eq_zero_or_one m with h | h <;> simp [h]
      have hlt : Hid (m / 2 < m) := Nat.div_lt_self (by omega) (by omega)
      have hsq : Hid (gpow (gmul x x) (m / 2) = gpow x (2 * (m / 2))) := gpow_sq hx _
      have hxx : gmul x x < 256 := gmul_lt hx
      rcases hpar with ⟨hp, hpb⟩ | ⟨hp, hpb⟩
      · have hg2 : Hid (gmul (gmul o x) (gpow (gmul x x) (m / 2)) = gpow a n) := by
          show _ = _
          rw [hsq.out, ← hg.out, gmul_assoc ho hx (gpow_lt _)]
          congr 1
          rw [gmul_comm hx (gpow_lt _)]
          show gpow x (2 * (m / 2) + 1) = _
          congr 1; omega
        clear hp
        have hox : gmul o x < 256 := gmul_lt ho
        go_wp2_with fail
        refine (field_Mul o x _ ho hx).mono ?_; rintro e w' ⟨rfl, rfl⟩
        go_wp2_with fail
        refine (field_Mul x x _ hx hx).mono ?_; rintro e w' ⟨rfl, rfl⟩
        go_wp2_with fail
        go_round
        case rel => exact ⟨gmul x x, m / 2, gmul o x, rfl, by go_num, rfl, hxx, by omega, hox, hg2⟩
        case measure => have := hlt.out; simp [intOf]; omega
      · have hg2 : Hid (gmul o (gpow (gmul x x) (m / 2)) = gpow a n) := by
          show _ = _
          rw [hsq.out, ← hg.out]
          congr 2; omega
        clear hp
        go_wp2_with fail
        refine (field_Mul x x _ hx hx).mono ?_; rintro e w' ⟨rfl, rfl⟩
        go_wp2_with fail
        go_round
        case rel => exact ⟨gmul x x, m / 2, o, rfl, by go_num, rfl, hxx, by omega, ho, hg2⟩
        case measure => have := hlt.out; simp [intOf]; omega
set_option maxHeartbeats 400000 in
theorem field_Pow_bad (a n : Int) (w : World) (hn : n < 0) :
    Calls Try.prog 85 #[.int .u8 a, .int .i64 n] w fun e w' => e = .returned (.tuple #[.int .u8 0, .int .i64 1]) ∧ w = w' := by
  go_enter Try.func85, Try.ntmps85
  go_wp2_with fail
  go_ret2
  exact ⟨rfl, rfl⟩

set_option maxHeartbeats 400000 in
theorem field_Inv (a : Nat) (w : World) (ha : a < 256) (h0 : a ≠ 0) :
    Calls Try.prog 71 #[.int .u8 a] w fun e w' => e = .returned (.tuple #[.int .u8 (ginv a : Nat), .int .i64 0]) ∧ w = w' := by
  have hz : ((a : Int) == 0) = false := by simp; omega
  have hi : Hid (ginv a = gpow a 254) := ginv_pow ha
  have c := Lib.hid (field_Pow a 254 w ha (by omega))
  go_enter Try.func71, Try.ntmps71
  go_wp2_with (go_at_call 85; refine (c.out).mono ?_; rintro e w' ⟨rfl, rfl⟩)
  go_ret2
  exact ⟨by rw [hi.out]; rfl, rfl⟩
set_option maxHeartbeats 400000 in
theorem field_Inv_zero (w : World) :
    Calls Try.prog 71 #[.int .u8 0] w fun e w' => e = .returned (.tuple #[.int .u8 0, .int .i64 5]) ∧ w = w' := by
  go_enter Try.func71, Try.ntmps71
  go_wp2_with fail
  go_ret2
  exact ⟨rfl, rfl⟩

end Go.Proofs.Ytioecklnijhjgaa
