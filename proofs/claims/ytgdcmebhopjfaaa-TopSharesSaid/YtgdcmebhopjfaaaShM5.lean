/- Contracts of package euclid: each function returns what plain arithmetic says; the world stays but for draws. -/
import Derived.Test.YtgdcmebhopjfaaaRows
import Derived.WalkKit
import Derived.WalkSpells
import Derived.WalkLawsBesides
import Derived.Deep.QuietTactic
import Derived.BigQuiet
import Derived.Lib.Hide
import Derived.Handy
import Derived.Test.YtgdcmebhopjfaaaShM3
import Derived.Test.YtgdcmebhopjfaaaShM4
namespace Go.Proofs.Ytgdcmebhopjfaaa
open Go.RowKit

set_option maxHeartbeats 400000 in
theorem euclid_gcd (a b : Int) (w : World) (ha : -1000000000 ≤ a) (ha' : a ≤ 1000000000) (hb : -1000000000 ≤ b) (hb' : b ≤ 1000000000) :
    Calls Try.prog 145 #[.int .i64 a, .int .i64 b] w fun e w' => e = .returned (.int .i64 (gI a b)) ∧ ∃ n, w' = w.drewN n := by
  go_enter Try.func145, Try.ntmps145
  go_wp2
  go_loopw [0, 1] (fun x y wr => ∃ c d : Int, x = .int .i64 c ∧ y = .int .i64 d ∧ Hid (Int.gcd c d = Int.gcd a b) ∧ -1000000000 ≤ c ∧ c ≤ 1000000000 ∧ -1000000000 ≤ d ∧ d ≤ 1000000000 ∧ ∃ n, wr = w.drewN n) (fun _ y _ => (intOf y).natAbs)
  case atStart => exact ⟨a, b, rfl, rfl, rfl, ha, ha', hb, hb', 0, rfl⟩
  case round =>
    obtain ⟨c, d, rfl, rfl, hg, hc, hc', hd, hd', n, rfl⟩ := hrel
    go_wp2
    · have h : (d != 0) = true := by assumption
      have hd0 : d ≠ 0 := by simpa using h
      go_quiet (fail)
      go_wp2
      go_roundw
      case rel => exact ⟨d, c.tmod d, rfl, rfl, by have := hg; unfold Hid at *; rw [gcd_tmod]; exact this, hd, hd', (tmod_in c d _ ⟨hc, hc'⟩).1, (tmod_in c d _ ⟨hc, hc'⟩).2, dr2 _ _ _⟩
      case measure => exact tmod_lt c d hd0
    all_goals
      have h : (d != 0) = false := by assumption
      have hd0 : d = 0 := by simpa using h
      have hgo := hg.out
      go_ret
      refine ⟨?_, _, rfl⟩
      unfold gI
      rw [← hgo, hd0]
      congr 2
      simp [Int.gcd]
      omega

set_option maxHeartbeats 400000 in
theorem euclid_in_yes (a : Int) (w : World) (h1 : -1000000000 ≤ a) (h2 : a ≤ 1000000000) :
    Calls Try.prog 144 #[.int .i64 a] w fun e w' => e = .returned (.bool true) ∧ w = w' := by
  have h3 : decide (a ≤ 1000000000) = true := by simp; omega
  go_enter Try.func144, Try.ntmps144
  go_wp2
  go_ret
  exact ⟨by simp [h2], rfl⟩
set_option maxHeartbeats 400000 in
theorem euclid_in_no (a : Int) (w : World) (h : a < -1000000000 ∨ 1000000000 < a) :
    Calls Try.prog 144 #[.int .i64 a] w fun e w' => e = .returned (.bool false) ∧ w = w' := by
  rcases h with h | h
  all_goals
    go_enter Try.func144, Try.ntmps144
    go_wp2
    go_ret
    exact ⟨by first | rfl | (simp; omega), rfl⟩

set_option maxHeartbeats 400000 in
theorem euclid_Gcd (a b : Int) (w : World) (ha : -1000000000 ≤ a) (ha' : a ≤ 1000000000) (hb : -1000000000 ≤ b) (hb' : b ≤ 1000000000) :
    Calls Try.prog 80 #[.int .i64 a, .int .i64 b] w fun e w' => e = .returned (.tuple #[.int .i64 (gI a b), .int .i64 0]) ∧ ∃ n, w' = w.drewN n := by
  go_enter Try.func80, Try.ntmps80
  go_wp2_with (first | (go_at_call 144; refine (euclid_in_yes _ _ (by omega) (by omega)).mono ?_; rintro e w' ⟨rfl, rfl⟩) | (go_at_call 145; refine (euclid_gcd a b _ ha ha' hb hb').mono ?_; rintro e w' ⟨rfl, n, rfl⟩))
  go_ret2
  exact ⟨rfl, _, rfl⟩

set_option maxHeartbeats 400000 in
theorem euclid_Gcd_bad (a b : Int) (w : World) (h : (a < -1000000000 ∨ 1000000000 < a) ∨ (b < -1000000000 ∨ 1000000000 < b)) :
    Calls Try.prog 80 #[.int .i64 a, .int .i64 b] w fun e w' => e = .returned (.tuple #[.int .i64 0, .int .i64 1]) ∧ ∃ n, w' = w.drewN n := by
  by_cases ha : a < -1000000000 ∨ 1000000000 < a
  · go_enter Try.func80, Try.ntmps80
    go_wp2_with (go_at_call 144; refine (euclid_in_no _ _ ha).mono ?_; rintro e w' ⟨rfl, rfl⟩)
    go_ret2; exact ⟨rfl, 0, rfl⟩
  · have hb : b < -1000000000 ∨ 1000000000 < b := by omega
    go_enter Try.func80, Try.ntmps80
    go_wp2_with fail
    refine (euclid_in_yes _ _ (by omega) (by omega)).mono ?_; rintro e w' ⟨rfl, rfl⟩
    go_wp2_with fail
    refine (euclid_in_no _ _ hb).mono ?_; rintro e w' ⟨rfl, rfl⟩
    go_wp2_with fail
    go_ret2; exact ⟨rfl, 0, rfl⟩

set_option maxHeartbeats 400000 in
theorem euclid_mod (a m : Int) (w : World) (ha : -1000000000 ≤ a) (ha' : a ≤ 1000000000) (hm : 1 ≤ m) (hm' : m ≤ 1000000000) :
    Calls Try.prog 205 #[.int .i64 a, .int .i64 m] w fun e w' => e = .returned (.int .i64 (a % m)) ∧ ∃ n, w' = w.drewN n := by
  have h1 := tmod_in a m 1000000000 ⟨ha, ha'⟩
  have h2 : 0 ≤ a.tmod m + m := by have := Int.lt_tmod_of_pos a (b := m) (by omega); omega
  have hz : (m == 0) = false := by simp; omega
  go_enter Try.func205, Try.ntmps205
  go_wp2
  go_ret
  exact ⟨ret_int (mod_up a m hm), 0, rfl⟩

set_option maxHeartbeats 1000000 in
theorem euclid_inverse (a m : Int) (w : World) (ha : -1000000000 ≤ a) (ha' : a ≤ 1000000000) (hm : 1 ≤ m) (hm' : m ≤ 1000000000) (hg : Hid (Int.gcd a m = 1)) :
    Calls Try.prog 171 #[.int .i64 a, .int .i64 m] w fun e w' => e = .returned (.int .i64 (invOf a m)) ∧ ∃ n, w' = w.drewN n := by
  have h0 : 0 ≤ a % m := Int.emod_nonneg a (by omega)
  have h1 : a % m < m := Int.emod_lt_of_pos a (by omega)
  have HI : Hid (Inv (a % m) m (a % m) m 1 0) := Inv.start _ _ h0 (by omega) hm (by
    rw [gcd_emod]; exact hg.out)
  go_enter Try.func171, Try.ntmps171
  go_wp2_with (go_at_call 205; refine (euclid_mod a m _ ha ha' hm hm').mono ?_; rintro e w' ⟨rfl, n, rfl⟩)
  go_loopw [0, 5, 6, 7] (fun va vx vy vb wr => ∃ c x y d : Int, va = .int .i64 c ∧ vx = .int .i64 x ∧ vy = .int .i64 y ∧ vb = .int .i64 d ∧ Hid (Inv (a % m) m c d x y) ∧ ∃ n, wr = w.drewN n) (fun _ _ _ vb _ => (intOf vb).natAbs)
  case atStart => exact ⟨_, _, _, _, rfl, rfl, rfl, rfl, HI, _, rfl⟩
  case round =>
    obtain ⟨c, x, y, d, rfl, rfl, rfl, rfl, hI, n, rfl⟩ := hrel
    have hd0 := hI.out.b0'
    have hc0 := hI.out.a0'
    have hcm := hI.out.am
    have hdm := hI.out.bm
    have hxm := hI.out.xm
    have hym := hI.out.ym
    by_cases hd : d = 0
    · subst hd
      have hl : Hid (c = 1 ∧ m ∣ x * (a % m) - 1) := hI.out.last
      go_wp2_with (go_at_call 205; refine (euclid_mod x m _ (by omega) (by omega) hm hm').mono ?_; rintro e w' ⟨rfl, n2, rfl⟩)
      go_ret
      exact ⟨ret_int (invOf_eq (isInv_mod hm hl.out.2)).symm, _, rfl⟩
    · have hb := hI.out.bounds hd hm'
      have hS : Hid (Inv (a % m) m d (c - c / d * d) y (x - c / d * y)) := hI.out.step hd
      have hm2 : Hid ((c - c / d * d).natAbs < d.natAbs) := by
        have := Int.emod_lt_of_pos c (b := d) (by omega)
        have h3 := Int.emod_nonneg c hd
        have h4 := Int.emod_add_mul_ediv c d
        rw [Int.mul_comm] at h4
        show _ < _
        omega
      go_wp2
      go_roundw
      case rel => exact ⟨_, _, _, _, rfl, rfl, rfl, rfl, hS, _, rfl⟩
      case measure => exact hm2.out

set_option maxHeartbeats 400000 in
theorem euclid_Bezout_bad (a b : Int) (w : World) (h : (a < -1000000000 ∨ 1000000000 < a) ∨ (b < -1000000000 ∨ 1000000000 < b)) :
    Calls Try.prog 147 #[.int .i64 a, .int .i64 b] w fun e w' => e = .returned (.tuple #[.int .i64 0, .int .i64 0, .int .i64 0, .int .i64 1]) ∧ ∃ n, w' = w.drewN n := by
  go_enter Try.func147, Try.ntmps147
  go_wp2_with (go_at_call 80; refine (euclid_Gcd_bad a b _ h).mono ?_; rintro e w' ⟨rfl, n, rfl⟩)
  refine bodyPost_ret (results_tmp4 rfl _ _ _) rfl ?_
  exact ⟨rfl, _, rfl⟩

set_option maxHeartbeats 1000000 in
theorem euclid_Bezout (a b : Int) (w : World) (ha : -1000000000 ≤ a) (ha' : a ≤ 1000000000) (hb : -1000000000 ≤ b) (hb' : b ≤ 1000000000) :
    Calls Try.prog 147 #[.int .i64 a, .int .i64 b] w fun e w' => e = .returned (.tuple #[.int .i64 (bezX a b), .int .i64 (bezY a b), .int .i64 (gI a b), .int .i64 0]) ∧ ∃ n, w' = w.drewN n := by
  by_cases h0 : b = 0
  · subst h0
    have hy : Hid (bezY a 0 = 0) := by show _ = _; simp [bezY]
    have hx1 : Hid (0 < a → bezX a 0 = 1) := by show _ → _ = _; intro h; simp [bezX, h]
    have hx2 : Hid (a < 0 → bezX a 0 = -1) := by show _ → _ = _; intro h; simp [bezX, h]; omega
    have hx3 : Hid (a = 0 → bezX a 0 = 0) := by show _ → _ = _; intro h; simp [bezX, h]
    go_enter Try.func147, Try.ntmps147
    go_wp2_with (go_at_call 80; refine (euclid_Gcd a 0 _ ha ha' hb hb').mono ?_; rintro e w' ⟨rfl, n, rfl⟩)
    · have h : 0 < a := by assumption
      go_wp2
      refine bodyPost_ret (results_tmp4 rfl _ _ _) rfl ?_
      exact ⟨by rw [hx1.out h, hy.out]; rfl, _, rfl⟩
    · have h : a < 0 := by assumption
      go_wp2
      refine bodyPost_ret (results_tmp4 rfl _ _ _) rfl ?_
      exact ⟨by rw [hx2.out h, hy.out]; rfl, _, rfl⟩
    · have h : a ≤ 0 := by assumption
      have h2 : 0 ≤ a := by assumption
      refine bodyPost_ret (results_tmp4 rfl _ _ _) rfl ?_
      exact ⟨by rw [hx3.out (by omega), hy.out]; rfl, _, rfl⟩
  · have hz : (b == 0) = false := by simpa using h0
    have S : BezSteps a b := bezSteps a b ha ha' hb hb' h0
    have g1 := S.g1; have gm := S.gm; have lo := S.lo; have hi := S.hi; have m1 := S.m1; have mm := S.mm; have x0 := S.x0; have xm := S.xm
    have plo := S.plo; have phi := S.phi; have ylo := S.ylo; have yhi := S.yhi
    go_enter Try.func147, Try.ntmps147
    go_wp2_with (go_at_call 80; refine (euclid_Gcd a b _ ha ha' hb hb').mono ?_; rintro e w' ⟨rfl, n, rfl⟩)
    go_quiet ((go_at_call 171; exact quiet_at (fun W => euclid_inverse _ _ W lo hi m1 mm S.gcd)))
    rw [S.x]
    go_wp2
    all_goals
      go_quiet (fail)
      go_wp2
      refine bodyPost_ret (results_tmp4 rfl _ _ _) rfl ?_
      exact ⟨by rw [← S.y]; rfl, dr2 _ _ _⟩

/-- The least common multiple. -/
def lcmI (a b : Int) : Int := if a = 0 ∨ b = 0 then 0 else max (a.tdiv (gI a b) * b) (-(a.tdiv (gI a b) * b))

/-- How often one divides, at numbers from 0 on. -/
def stepsN : Nat → Nat → Nat → Nat
  | 0, _, _ => 0
  | f + 1, a, b => if b = 0 then 0 else stepsN f b (a % b) + 1
theorem stepsN_more (f : Nat) : ∀ g a b : Nat, b < f → b < g → stepsN f a b = stepsN g a b := by
  induction f with
  | zero => intro g a b h; omega
  | succ f ih =>
    intro g a b hf hg
    cases g with
    | zero => omega
    | succ g =>
      simp only [stepsN]
      by_cases hb : b = 0
      · simp [hb]
      · have := Nat.mod_lt a (show b > 0 by omega)
        rw [if_neg hb, if_neg hb, ih g b (a % b) (by omega) (by omega)]
def stepsI (a b : Int) : Int := (stepsN (b.toNat + 1) a.toNat b.toNat : Int)
theorem stepsI_zero (a : Int) : stepsI a 0 = 0 := rfl
theorem stepsI_succ (a b : Int) (ha : 0 ≤ a) (hb : 1 ≤ b) : stepsI a b = stepsI b (a % b) + 1 := by
  obtain ⟨x, rfl⟩ := Int.eq_ofNat_of_zero_le ha
  obtain ⟨y, rfl⟩ := Int.eq_ofNat_of_zero_le (show 0 ≤ b by omega)
  have e : ((x : Int) % (y : Int)) = ((x % y : Nat) : Int) := rfl
  unfold stepsI
  rw [e]
  simp only [Int.toNat_natCast]
  rw [show stepsN (y + 1) x y = stepsN y y (x % y) + 1 by rw [stepsN, if_neg (by omega)]]
  rw [stepsN_more y (x % y + 1) y (x % y) (Nat.mod_lt _ (by omega)) (by omega)]
  rfl
theorem stepsI_bd (a b : Int) : 0 ≤ stepsI a b ∧ stepsI a b ≤ b.toNat := by
  have H : ∀ (f a b : Nat), stepsN f a b ≤ b := by
    intro f
    induction f with
    | zero => intro a b; simp [stepsN]
    | succ f ih =>
      intro a b
      rw [stepsN]
      split
      · omega
      · have := ih b (a % b); have := Nat.mod_lt a (show b > 0 by omega); omega
  have := H (b.toNat + 1) a.toNat b.toNat
  unfold stepsI
  omega

end Go.Proofs.Ytgdcmebhopjfaaa
namespace Go.Proofs.Ytgdcmebhopjfaaa
open Go.RowKit

set_option maxHeartbeats 400000 in
theorem rest_Of (a m : Int) (w : World) (ha : -9223372036854775808 ≤ a) (ha' : a ≤ 9223372036854775807) (hm : 1 ≤ m) (hm' : m ≤ 1000000) :
    Calls Try.prog 87 #[.int .i64 a, .int .i64 m] w fun e w' => e = .returned (.tuple #[.int .i64 (a % m), .int .i64 0]) ∧ ∃ n, w' = w.drewN n := by
  have h1 : -1000000 ≤ a.tmod m ∧ a.tmod m ≤ 1000000 := by
    have := Int.lt_tmod_of_pos a (b := m) (by omega); have := Int.tmod_lt_of_pos a (b := m) (by omega); omega
  have h2 : 0 ≤ a.tmod m + m := by have := Int.lt_tmod_of_pos a (b := m) (by omega); omega
  have hz : (m == 0) = false := by simp; omega
  have hmz : ¬ m = 0 := by omega
  have d1 : decide (1000000 < m) = false := by simp; omega
  have hR := Lib.hid (mod_up a m hm)
  go_enter Try.func87, Try.ntmps87
  go_wp2
  go_ret2
  exact ⟨by rw [← hR.out]; rfl, 0, rfl⟩
set_option maxHeartbeats 400000 in
theorem rest_Of_bad (a m : Int) (w : World) (hm : m < 1 ∨ 1000000 < m) :
    Calls Try.prog 87 #[.int .i64 a, .int .i64 m] w fun e w' => e = .returned (.tuple #[.int .i64 0, .int .i64 1]) ∧ ∃ n, w' = w.drewN n := by
  by_cases h : m < 1
  · go_enter Try.func87, Try.ntmps87
    go_wp2_with fail
    go_ret2
    exact ⟨rfl, 0, rfl⟩
  · have d1 : decide (1000000 < m) = true := by simp; omega
    go_enter Try.func87, Try.ntmps87
    go_wp2_with fail
    go_ret2
    exact ⟨rfl, 0, rfl⟩

set_option maxHeartbeats 400000 in
theorem ref_Rest (a m : Int) (w : World) (ha : -9223372036854775808 ≤ a) (ha' : a ≤ 9223372036854775807) (hm : 1 ≤ m) (hm' : m ≤ 1000000000) :
    Calls Try.prog 75 #[.int .i64 a, .int .i64 m] w fun e w' => e = .returned (.int .i64 (a % m)) ∧ ∃ n, w' = w.drewN n := by
  have hmz : ¬ m = 0 := by omega
  have hz : (m == 0) = false := by simp; omega
  have l1 := Int.lt_tmod_of_pos a (b := m) (by omega)
  have l2 := Int.tmod_lt_of_pos a (b := m) (by omega)
  by_cases h : a.tmod m < 0
  · have hR : Hid (a.tmod m + m = a % m) := by
      show _ = _
      have := mod_up a m hm
      rw [Int.emod_eq_of_lt (by omega) (by omega)] at this
      exact this
    go_enter Try.func75, Try.ntmps75
    go_wp2
    go_ret
    exact ⟨ret_int hR.out, 0, rfl⟩
  · have hR : Hid (a.tmod m = a % m) := by
      show _ = _
      have := mod_up a m hm
      rw [Int.add_emod_right, Int.emod_eq_of_lt (by omega) (by omega)] at this
      exact this
    go_enter Try.func75, Try.ntmps75
    go_wp2
    go_ret
    exact ⟨ret_int hR.out, 0, rfl⟩
end Go.Proofs.Ytgdcmebhopjfaaa
namespace Go.Proofs.Ytgdcmebhopjfaaa

theorem pigeon : ∀ (n : Nat) (f : Nat → Nat), (∀ i, i ≤ n → f i < n) → ∃ i j, i < j ∧ j ≤ n ∧ f i = f j := by
  intro n
  induction n with
  | zero => intro f h; have := h 0 (by omega); omega
  | succ n ih =>
    intro f h
    by_cases hv : ∃ i, i ≤ n ∧ f i = f (n + 1)
    · obtain ⟨i, hi, he⟩ := hv
      exact ⟨i, n + 1, by omega, by omega, he⟩
    · have hno : ∀ i, i ≤ n → f i ≠ f (n + 1) := fun i hi he => hv ⟨i, hi, he⟩
      have hvb := h (n + 1) (Nat.le_refl _)
      obtain ⟨i, j, hij, hj, he⟩ := ih (fun i => if f i = n then f (n + 1) else f i) (fun i hi => by
        have h1 := h i (by omega)
        have h2 := hno i hi
        show (if f i = n then f (n + 1) else f i) < n
        split <;> omega)
      refine ⟨i, j, hij, by omega, ?_⟩
      have h1 := hno i (by omega)
      have h2 := hno j hj
      split at he <;> split at he <;> omega
theorem first_nat {p : Nat → Prop} {k : Nat} (h : p k) : ∃ m, m ≤ k ∧ p m ∧ ∀ j, j < m → ¬ p j := by
  induction k using Nat.strongRecOn with
  | _ k ih =>
    by_cases hh : ∃ j, j < k ∧ p j
    · obtain ⟨j, hj, hp⟩ := hh
      obtain ⟨m, hm, h2⟩ := ih j hj hp
      exact ⟨m, by omega, h2⟩
    · exact ⟨k, Nat.le_refl _, h, fun j hj hp => hh ⟨j, hj, hp⟩⟩

/-- Where x undoes a, equal powers may be shortened. -/
theorem cancel_pow {a x m : Int} (hx : x * a % m = 1 % m) (i d : Nat) (h : pwm a i m = pwm a (i + d) m) : pwm a d m = 1 % m := by
  induction i with
  | zero => rw [Nat.zero_add] at h; rw [← h]; unfold pwm; rw [Int.pow_zero]
  | succ i ih =>
    apply ih
    have e : ∀ n : Nat, x * a ^ (n + 1) % m = pwm a n m := fun n => by
      unfold pwm
      rw [Int.pow_succ, Int.mul_comm (a ^ n) a, ← Int.mul_assoc, Int.mul_emod, hx, ← Int.mul_emod, Int.one_mul]
    have h1 : x * a ^ (i + 1) % m = x * a ^ (i + 1 + d) % m := by
      rw [Int.mul_emod, Int.mul_emod x (a ^ (i + 1 + d))]
      have : a ^ (i + 1) % m = a ^ (i + 1 + d) % m := h
      rw [this]
    rw [e i, show i + 1 + d = (i + d) + 1 by omega, e (i + d)] at h1
    exact h1
/-- k is the order of a modulo m. -/
def IsOrder (a m : Int) (k : Nat) : Prop := 1 ≤ k ∧ pwm a k m = 1 % m ∧ ∀ j, 1 ≤ j → j < k → pwm a j m ≠ 1 % m
theorem order_exists {a x m : Int} (hm : 1 ≤ m) (hx : x * a % m = 1 % m) : ∃ k, IsOrder a m k ∧ k ≤ m.toNat := by
  obtain ⟨i, j, hij, hj, he⟩ := pigeon m.toNat (fun i => (pwm a i m).toNat) (fun i _ => by have := pwm_nonneg a i hm; show (pwm a i m).toNat < m.toNat; omega)
  have h1 := pwm_nonneg a i hm
  have h2 := pwm_nonneg a j hm
  have he2 : pwm a i m = pwm a (i + (j - i)) m := by
    rw [show i + (j - i) = j by omega]; have he3 : (pwm a i m).toNat = (pwm a j m).toNat := he; omega
  have h3 := cancel_pow hx i (j - i) he2
  obtain ⟨k, hk, ⟨hk1, hk2⟩, hk3⟩ := first_nat (p := fun k => 1 ≤ k ∧ pwm a k m = 1 % m) (k := j - i) ⟨by omega, h3⟩
  exact ⟨k, ⟨hk1, hk2, fun j h4 h5 h6 => hk3 j h5 ⟨h4, h6⟩⟩, by omega⟩
end Go.Proofs.Ytgdcmebhopjfaaa
namespace Go.Proofs.Ytgdcmebhopjfaaa
open Go.RowKit

theorem gcd_half (c d : Nat) (hc : c % 2 = 0) (hd : d % 2 = 1) : Nat.gcd (c / 2) d = Nat.gcd c d := by
  have e : c = 2 * (c / 2) := by omega
  have h2 : Nat.Coprime 2 d := by
    rw [Nat.Coprime, Nat.gcd_rec, hd]; rfl
  rw [e, Nat.Coprime.gcd_mul_left_cancel _ h2]
  congr 1; omega
theorem gcd_half' (c d : Nat) (hc : c % 2 = 1) (hd : d % 2 = 0) : Nat.gcd c (d / 2) = Nat.gcd c d := by
  rw [Nat.gcd_comm, gcd_half d c hd hc, Nat.gcd_comm]
theorem gcd_both (c d t G : Nat) (hc : c % 2 = 0) (hd : d % 2 = 0) (h : Nat.gcd c d * 2 ^ t = G) : Nat.gcd (c / 2) (d / 2) * 2 ^ (t + 1) = G := by
  have e1 : c = 2 * (c / 2) := by omega
  have e2 : d = 2 * (d / 2) := by omega
  rw [e1, e2, Nat.gcd_mul_left] at h
  rw [← h, Nat.pow_succ]
  simp only [Nat.mul_assoc, Nat.mul_comm, Nat.mul_left_comm]
theorem or_even (c d : Nat) : (c ||| d) % 2 = 0 ↔ c % 2 = 0 ∧ d % 2 = 0 := by
  have h : ((c ||| d) % 2) = ((c % 2) ||| (d % 2)) := Nat.or_mod_two_pow (a := c) (b := d) (n := 1)
  rw [h]
  rcases Nat.mod_two_eq_zero_or_one c with h1 | h1 <;> rcases Nat.mod_two_eq_zero_or_one d with h2 | h2 <;> simp [h1, h2]

theorem gcd_less (m n : Nat) (h : n ≤ m) : Nat.gcd n (m - n) = Nat.gcd m n := by
  obtain ⟨k, rfl⟩ := Nat.exists_eq_add_of_le h
  rw [Nat.add_sub_cancel_left, Nat.gcd_comm (n + k) n]; simp
set_option maxHeartbeats 1000000 in
theorem gcdOf (a b : Int) (w : World) (ha : -2305843009213693952 ≤ a) (ha' : a ≤ 2305843009213693952) (hb : -2305843009213693952 ≤ b) (hb' : b ≤ 2305843009213693952) :
    Calls Try.prog 161 #[.int .i64 a, .int .i64 b] w fun e w' => e = .returned (.int .i64 (gI a b)) ∧ w = w' := by
  obtain ⟨X, hX⟩ : ∃ X : Nat, (if a < -a then -a else a) = (X : Int) := ⟨a.natAbs, by split <;> omega⟩
  obtain ⟨Y, hY⟩ : ∃ Y : Nat, (if b < -b then -b else b) = (Y : Int) := ⟨b.natAbs, by split <;> omega⟩
  have hG : Hid (gI a b = ((Nat.gcd X Y : Nat) : Int)) := by
    show _ = _
    have h1 : X = a.natAbs := by split at hX <;> omega
    have h2 : Y = b.natAbs := by split at hY <;> omega
    rw [h1, h2]; rfl
  have hXm : X ≤ 2305843009213693952 := by split at hX <;> omega
  have hYm : Y ≤ 2305843009213693952 := by split at hY <;> omega
  by_cases x0 : X = 0 ∨ Y = 0
  · have hR : Hid ((X : Int) + (Y : Int) = gI a b) := by
      show _ = _
      rw [hG.out]; rcases x0 with h | h <;> simp [h]
    by_cases x1 : X = 0
    · have z : ((X : Int) == 0) = true := by simp [x1]
      clear x0 x1
      go_enter Try.func161, Try.ntmps161
      go_wp2
      go_ret
      exact ⟨ret_int hR.out, rfl⟩
    · have z : ((X : Int) == 0) = false := by simp [x1]
      have z2 : ((Y : Int) == 0) = true := by simp; omega
      clear x0 x1
      go_enter Try.func161, Try.ntmps161
      go_wp2
      go_ret
      exact ⟨ret_int hR.out, rfl⟩
  · have z : ((X : Int) == 0) = false := by simp; omega
    have z2 : ((Y : Int) == 0) = false := by simp; omega
    have x1 : 1 ≤ X := by omega
    have y1 : 1 ≤ Y := by omega
    clear x0
    go_enter Try.func161, Try.ntmps161
    go_wp2
    go_loop [0, 1, 5] (fun va vb vt => ∃ c d t : Nat, va = .int .i64 c ∧ vb = .int .i64 d ∧ vt = .int .i64 t ∧ 1 ≤ c ∧ 1 ≤ d ∧ c ≤ X ∧ d ≤ Y ∧ t ≤ 63 ∧ Hid (c * 2 ^ t ≤ X) ∧ Hid (Nat.gcd c d * 2 ^ t = Nat.gcd X Y)) (fun va _ _ => (intOf va).toNat)
    case atStart => exact ⟨X, Y, 0, rfl, rfl, rfl, x1, y1, Nat.le_refl _, Nat.le_refl _, by omega, by show _ ≤ _; simp, by show _ = _; simp⟩
    case round =>
      obtain ⟨c, d, t, rfl, rfl, rfl, hc, hd, hcX, hdY, ht, hp, hg⟩ := hrel
      have o1 := i64_or_nat c d (by omega) (by omega)
      have hor : c ||| d < 9223372036854775808 := Nat.or_lt_two_pow (n := 63) (by omega) (by omega)
      have o2 := i64_and_one (c ||| d) hor
      by_cases hev : c % 2 = 0 ∧ d % 2 = 0
      · have o3 : ((((c ||| d : Nat) : Int)) % 2 == 0) = true := by have := (or_even c d).2 hev; simp; omega
        have hp2 : Hid (c / 2 * 2 ^ (t + 1) ≤ X) := by
          have h1 := hp.out
          show _ ≤ _
          rw [Nat.pow_succ, Nat.mul_comm (2 ^ t) 2, ← Nat.mul_assoc]
          exact Nat.le_trans (Nat.mul_le_mul_right _ (by omega)) h1
        have hg2 : Hid (Nat.gcd (c / 2) (d / 2) * 2 ^ (t + 1) = Nat.gcd X Y) := gcd_both c d t _ hev.1 hev.2 hg.out
        have ht2 : t + 1 ≤ 63 := by
          have h1 := hp2.out
          have h2 : 1 * 2 ^ (t + 1) ≤ c / 2 * 2 ^ (t + 1) := Nat.mul_le_mul_right _ (by omega)
          have h3 : 2 ^ (t + 1) < 2 ^ 63 := by omega
          have := (Nat.pow_lt_pow_iff_right (a := 2) (by omega)).1 h3
          omega
        go_wp2
        go_round
        case rel => exact ⟨c / 2, d / 2, t + 1, by go_num, by go_num, by go_num, by omega, by omega, by omega, by omega, ht2, hp2, hg2⟩
        case measure => simp [intOf]; omega
      · have o3 : ((((c ||| d : Nat) : Int)) % 2 == 0) = false := by
          have := (not_congr (or_even c d)).2 hev
          simp; omega
        have hodd : c % 2 = 1 ∨ d % 2 = 1 := by omega
        have hgt : Hid (Nat.gcd c d * 2 ^ t = Nat.gcd X Y) := hg
        clear hev hp hg
        go_wp2
        go_loop [0, 1] (fun va vb => ∃ p q : Nat, va = .int .i64 p ∧ vb = .int .i64 q ∧ 1 ≤ p ∧ p ≤ 2305843009213693952 ∧ q ≤ 2305843009213693952 ∧ Hid (p % 2 = 1 ∨ q % 2 = 1) ∧ Hid (Nat.gcd p q * 2 ^ t = Nat.gcd X Y)) (fun va vb => (intOf va).toNat + (intOf vb).toNat)
        case atStart => exact ⟨c, d, rfl, rfl, hc, by omega, by omega, hodd, hgt⟩
        case round =>
          obtain ⟨p, q, rfl, rfl, hp1, hpm, hqm, hpq, hg⟩ := hrel
          by_cases hq : q = 0
          · subst hq
            have hR : Hid (wrap64 ((p : Int) * 2 ^ t) = gI a b) := by
              show _ = _
              have h1 := hg.out
              rw [Nat.gcd_zero_right] at h1
              have h2 : ((p : Int) * 2 ^ t) = ((p * 2 ^ t : Nat) : Int) := by push_cast; rfl
              rw [h2, h1, hG.out]
              have h3 : Nat.gcd X Y ≤ X := Nat.gcd_le_left _ (by omega)
              exact IntWalk.wrap64_in _ (by omega)
            go_wp2
            go_ret
            exact ⟨ret_int hR.out, rfl⟩
          · have hqz : ((q : Int) != 0) = true := by simp; omega
            go_wp2
            go_loop [0] (fun va => ∃ p2 : Nat, va = .int .i64 p2 ∧ 1 ≤ p2 ∧ p2 ≤ p ∧ Hid (p2 % 2 = 1 ∨ q % 2 = 1) ∧ Hid (Nat.gcd p2 q * 2 ^ t = Nat.gcd X Y)) (fun va => (intOf va).toNat)
            case atStart => exact ⟨p, rfl, hp1, Nat.le_refl _, hpq, hg⟩
            case round =>
              obtain ⟨p2, rfl, h1, h2, hodd2, hg2⟩ := hrel
              have o4 := i64_and_one p2 (by omega)
              rcases Nat.mod_two_eq_zero_or_one p2 with he | he
              · have o5 : (((p2 : Nat) : Int) % 2 == 0) = true := by simp; omega
                go_wp2
                go_round
                case rel => exact ⟨p2 / 2, by go_num, by omega, by omega, by have := hodd2.out; show _ ∨ _; omega, by
                  have := hodd2.out
                  have h3 := gcd_half p2 q he (by omega)
                  show _ = _; rw [h3]; exact hg2.out⟩
                case measure => simp [intOf]; omega
              · have o5 : (((p2 : Nat) : Int) % 2 == 0) = false := by simp; omega
                have HE : Hid (p2 % 2 = 1) := he
                clear he
                go_wp2
                go_loop [1] (fun vb => ∃ q2 : Nat, vb = .int .i64 q2 ∧ 1 ≤ q2 ∧ q2 ≤ q ∧ Hid (Nat.gcd p2 q2 * 2 ^ t = Nat.gcd X Y)) (fun vb => (intOf vb).toNat)
                case atStart => exact ⟨q, rfl, by omega, Nat.le_refl _, hg2⟩
                case round =>
                  obtain ⟨q2, rfl, h3, h4, hg3⟩ := hrel
                  have o6 := i64_and_one q2 (by omega)
                  rcases Nat.mod_two_eq_zero_or_one q2 with he2 | he2
                  · have o7 : (((q2 : Nat) : Int) % 2 == 0) = true := by simp; omega
                    go_wp2
                    go_round
                    case rel => exact ⟨q2 / 2, by go_num, by omega, by omega, by
                      have h5 := gcd_half' p2 q2 HE.out he2
                      show _ = _; rw [h5]; exact hg3.out⟩
                    case measure => simp [intOf]; omega
                  · have o7 : (((q2 : Nat) : Int) % 2 == 0) = false := by simp; omega
                    have HE2 : Hid (q2 % 2 = 1) := he2
                    clear he2
                    by_cases hsw : q2 < p2
                    · go_wp2
                      go_round
                      case rel => exact ⟨q2, p2 - q2, rfl, by go_num, h3, by omega, by omega, .inl HE2.out, by show _ = _; rw [gcd_less p2 q2 (by omega)]; exact hg3.out⟩
                      case measure => simp [intOf]; omega
                    · go_wp2
                      go_round
                      case rel => exact ⟨p2, q2 - p2, rfl, by go_num, h1, by omega, by omega, .inl HE.out, by show _ = _; rw [gcd_less q2 p2 (by omega), Nat.gcd_comm]; exact hg3.out⟩
                      case measure => simp [intOf]; omega

/-- A number beyond ten to the ninth. -/
def bigB (x : Int) : Bool := decide (x < -1000000000 ∨ 1000000000 < x)
end Go.Proofs.Ytgdcmebhopjfaaa
namespace Go.Proofs.Ytgdcmebhopjfaaa
open Go.RowKit

set_option maxRecDepth 20000 in
set_option maxHeartbeats 1000000 in
theorem rest_Inverse (a m : Int) (w : World) (ha : -9223372036854775808 ≤ a) (ha' : a ≤ 9223372036854775807) (hm : 1 ≤ m) (hm' : m ≤ 1000000) (hg : gI (a % m) m = 1) :
    Calls Try.prog 83 #[.int .i64 a, .int .i64 m] w fun e w' => e = .returned (.tuple #[.int .i64 (bezX (a % m) m), .int .i64 0]) ∧ ∃ n, w' = w.drewN n := by
  have b0 : 0 ≤ a % m := Int.emod_nonneg _ (by omega)
  have b1 : a % m < m := Int.emod_lt_of_pos _ (by omega)
  go_enter Try.func83, Try.ntmps83
  go_wp2_with (first | (go_at_call 87; refine (rest_Of a m _ ha ha' hm hm').mono ?_; rintro e w' ⟨rfl, n1, rfl⟩) | (go_at_call 147; refine (euclid_Bezout (a % m) m _ (by omega) (by omega) (by omega) (by omega)).mono ?_; rintro e w' ⟨rfl, n2, rfl⟩))
  go_ret2
  exact ⟨rfl, _, rfl⟩
set_option maxRecDepth 20000 in
set_option maxHeartbeats 1000000 in
theorem rest_Inverse_none (a m : Int) (w : World) (ha : -9223372036854775808 ≤ a) (ha' : a ≤ 9223372036854775807) (hm : 1 ≤ m) (hm' : m ≤ 1000000) (hg : gI (a % m) m ≠ 1) :
    Calls Try.prog 83 #[.int .i64 a, .int .i64 m] w fun e w' => e = .returned (.tuple #[.int .i64 0, .int .i64 4]) ∧ ∃ n, w' = w.drewN n := by
  have b0 : 0 ≤ a % m := Int.emod_nonneg _ (by omega)
  have b1 : a % m < m := Int.emod_lt_of_pos _ (by omega)
  have hb : (gI (a % m) m != 1) = true := by simpa using hg
  clear hg
  go_enter Try.func83, Try.ntmps83
  go_wp2_with (first | (go_at_call 87; refine (rest_Of a m _ ha ha' hm hm').mono ?_; rintro e w' ⟨rfl, n1, rfl⟩) | (go_at_call 147; refine (euclid_Bezout (a % m) m _ (by omega) (by omega) (by omega) (by omega)).mono ?_; rintro e w' ⟨rfl, n2, rfl⟩))
  go_ret2
  exact ⟨rfl, _, rfl⟩
set_option maxRecDepth 20000 in
set_option maxHeartbeats 400000 in
theorem rest_Inverse_bad (a m : Int) (w : World) (hm : m < 1 ∨ 1000000 < m) :
    Calls Try.prog 83 #[.int .i64 a, .int .i64 m] w fun e w' => e = .returned (.tuple #[.int .i64 0, .int .i64 1]) ∧ ∃ n, w' = w.drewN n := by
  go_enter Try.func83, Try.ntmps83
  go_wp2_with (go_at_call 87; refine (rest_Of_bad a m _ hm).mono ?_; rintro e w' ⟨rfl, n1, rfl⟩)
  go_ret2
  exact ⟨rfl, _, rfl⟩
/-- What the inverse is. -/
theorem bez_inv {a m : Int} (hm : 1 ≤ m) (hg : gI a m = 1) : 0 ≤ bezX a m ∧ bezX a m < m ∧ bezX a m * a % m = 1 % m := by
  obtain ⟨h1, h2, h3⟩ := bez_law a m (by omega)
  rw [hg] at h2 h3
  refine ⟨h1, by simp at h2; omega, ?_⟩
  rw [← h3, Int.add_mul_emod_self_right]
set_option maxHeartbeats 400000 in
theorem ref_Coprime (a b : Int) (w : World) (ha : -2305843009213693952 ≤ a) (ha' : a ≤ 2305843009213693952) (hb : -2305843009213693952 ≤ b) (hb' : b ≤ 2305843009213693952) :
    Calls Try.prog 131 #[.int .i64 a, .int .i64 b] w fun e w' => e = .returned (.bool (gI a b == 1)) ∧ w = w' := by
  go_enter Try.func131, Try.ntmps131
  go_wp2_with (go_at_call 161; refine (gcdOf a b _ ha ha' hb hb').mono ?_; rintro e w' ⟨rfl, rfl⟩)
  go_ret
  exact ⟨rfl, rfl⟩

noncomputable def ordI (a m : Int) : Nat := Classical.epsilon (IsOrder a m)
theorem ordI_spec {a m : Int} (hm : 1 ≤ m) (hg : gI (a % m) m = 1) : IsOrder (a % m) m (ordI (a % m) m) ∧ ordI (a % m) m ≤ m.toNat := by
  obtain ⟨k, hk, hkm⟩ := order_exists hm (bez_inv hm hg).2.2
  have hs := Classical.epsilon_spec (p := IsOrder (a % m) m) ⟨k, hk⟩
  refine ⟨hs, ?_⟩
  rcases Nat.lt_or_ge k (ordI (a % m) m) with h | h
  · exact absurd hk.2.1 (hs.2.2 k hk.1 h)
  · omega

end Go.Proofs.Ytgdcmebhopjfaaa
namespace Go.Proofs.Ytgdcmebhopjfaaa
open Go.RowKit

def remS (p c : Int) (S : Nat → Int) (g : List Int) (k j i : Nat) : Int := if k ≤ i ∧ i < k + j then (S i - c * co g (i - k)) % p else S i
theorem remS_zero (p c : Int) (S : Nat → Int) (g : List Int) (k i : Nat) : remS p c S g k 0 i = S i := by unfold remS; rw [if_neg (by omega)]
theorem remS_step (p c : Int) (S : Nat → Int) (g : List Int) (k j i : Nat) : remS p c S g k (j + 1) i = if i = k + j then (S (k + j) + (p - c) * co g j) % p else remS p c S g k j i := by
  unfold remS
  by_cases h : i = k + j
  · subst h
    rw [if_pos rfl, if_pos (by omega), Nat.add_sub_cancel_left]
    have e : S (k + j) + (p - c) * co g j = (S (k + j) - c * co g j) + p * co g j := by grind
    rw [e, Int.add_mul_emod_self_left]
  · rw [if_neg h]
    by_cases h2 : k ≤ i ∧ i < k + j
    · rw [if_pos h2, if_pos (by omega)]
    · rw [if_neg h2, if_neg (by omega)]
theorem remS_at (p c : Int) (S : Nat → Int) (g : List Int) (k j : Nat) : remS p c S g k j (k + j) = S (k + j) := by unfold remS; rw [if_neg (by omega)]
theorem sub_mul_mod (s c t p : Int) : (s - c % p * t) % p = (s - c * t) % p := by
  have hm : c = c % p + p * (c / p) := (Int.emod_add_mul_ediv c p).symm
  have e : s - c * t = (s - c % p * t) + p * (-(c / p) * t) := by
    generalize c % p = m at hm ⊢
    generalize c / p = d at hm ⊢
    subst hm
    grind
  rw [e, Int.add_mul_emod_self_left]
theorem remS_full {p inv : Int} {g f : List Int} (D : DivOk p inv g f) (K t i : Nat) :
    remS p (rdn p inv g (co f) K t (K - 1 - t + g.length - 1) * inv % p) (rdn p inv g (co f) K t) g (K - 1 - t) g.length i = rdn p inv g (co f) K (t + 1) i := by
  show _ = (rdn p inv g (co f) K t i - rdn p inv g (co f) K t (K - 1 - t + g.length - 1) * inv * sh g (K - 1 - t) i) % p
  unfold remS
  by_cases h : K - 1 - t ≤ i ∧ i < K - 1 - t + g.length
  · rw [if_pos h, sub_mul_mod]
    congr 2
    unfold sh
    rw [if_pos h.1]
  · rw [if_neg h]
    have : sh g (K - 1 - t) i = 0 := by
      rcases Nat.lt_or_ge i (K - 1 - t) with h2 | h2
      · exact sh_lt g h2
      · exact sh_ge g (by omega)
    rw [this, Int.mul_zero, Int.sub_zero, rdn_mod D]
def quoS (p inv : Int) (g f : List Int) (t k : Nat) : Int := if KOf f g - t ≤ k then quo p inv g f k else 0
theorem quoS_zero {p inv : Int} {g f : List Int} (k : Nat) : quoS p inv g f 0 k = 0 := by
  unfold quoS quo
  split
  · rw [if_neg (by omega)]
  · rfl
theorem quoS_step {p inv : Int} {g f : List Int} (t k : Nat) (ht : t < KOf f g) : quoS p inv g f (t + 1) k = if k = KOf f g - 1 - t then rdn p inv g (co f) (KOf f g) t (KOf f g - 1 - t + g.length - 1) * inv % p else quoS p inv g f t k := by
  unfold quoS
  by_cases h : k = KOf f g - 1 - t
  · rw [if_pos h, if_pos (by omega)]
    unfold quo
    rw [if_pos (by omega), h, show KOf f g - 1 - (KOf f g - 1 - t) = t by omega]
  · rw [if_neg h]
    by_cases h2 : KOf f g - t ≤ k
    · rw [if_pos h2, if_pos (by omega)]
    · rw [if_neg h2, if_neg (by omega)]
/-- What Divided hands back. -/
def DivPost (p inv : Int) (f g : List Int) (w : World) (e : Ending) (w' : World) : Prop :=
  ∃ q r vq vr, (Trm q ∧ ∀ k, co q k = quo p inv g f k) ∧ (Trm r ∧ ∀ k, co r k = rdn p inv g (co f) (KOf f g) (KOf f g) k) ∧ Below w.heap.size w w' ∧ e = .returned (.tuple #[vq, vr]) ∧
    w'.ownsRow w.heap.size 3 1 vq q.length (q.map (Value.int .i64)) ∧ w'.ownsRow w.heap.size 3 1 vr r.length (r.map (Value.int .i64))
theorem own_data {w : World} {base e : Nat} {v : Value} {n : Nat} {xs : List Value} (h : w.ownsRow base e 1 v n xs) : ∃ ao cap, v = .slice ao n cap ∧ Reads w ao xs ∧ (ao = none → n = 0 ∧ cap = 0) ∧ n ≤ cap ∧ cap ≤ 9223372036854775807 := by
  obtain ⟨ao, cap, hv, hR, hn, _⟩ := own_reads h
  refine ⟨ao, cap, hv, hR, hn, ?_⟩
  rcases h.2 with ⟨h1, h2⟩ | ⟨g, cp, cur, hv3, h2⟩
  · rw [h1] at hv
    injection hv with e1 e2 e3
    omega
  · rw [hv3] at hv
    injection hv with e1 e2 e3
    have := h2.2.2.1
    have := h2.2.2.2.1
    unfold maxLen at *
    omega
theorem own_self {w : World} {base e g n cap : Nat} {f : List Int} (h : w.ownsRow base e 1 (.slice (some ⟨g, 0, none⟩) n cap) n (f.map (Value.int .i64))) (hl : f.length = n) : Own w base e g n cap (iV (co f)) := by
  unfold Own
  rw [map_iV, hl] at h
  exact h
theorem rdn_bd' {p inv : Int} {g f : List Int} (D : DivOk p inv g f) (hp : p ≤ 997) (K t j : Nat) {s : Int} (h : rdn p inv g (co f) K t j = s) : 0 ≤ s ∧ s ≤ 996 := by
  have := rdn_bd D K t j
  omega
theorem own_cap {w : World} {base e g n cap : Nat} {f : Nat → Value} (h : Own w base e g n cap f) : n ≤ cap ∧ cap ≤ 9223372036854775807 := by
  obtain ⟨ao, c, hv, _, _, h1, h2⟩ := own_data h
  injection hv with e1 e2 e3
  subst e3
  exact ⟨h1, h2⟩
end Go.Proofs.Ytgdcmebhopjfaaa
namespace Go.Proofs.Ytgdcmebhopjfaaa

def prodPow : List (Nat × Nat) → Nat
  | [] => 1
  | a :: l => a.1 ^ a.2 * prodPow l
theorem prodPow_append (l m : List (Nat × Nat)) : prodPow (l ++ m) = prodPow l * prodPow m := by
  induction l with
  | nil => simp [prodPow]
  | cons a l ih => simp [prodPow, ih, Nat.mul_assoc]
/-- The prime factors of n: primes that grow, each at least once, n multiplied. -/
structure Factors (n : Nat) (l : List (Nat × Nat)) : Prop where
  prod : prodPow l = n
  inc : l.Pairwise (fun a b => a.1 < b.1)
  pr : ∀ a ∈ l, IsPr a.1 ∧ 1 ≤ a.2
/-- What the rounds keep. -/
structure Fac (n m d : Nat) (l : List (Nat × Nat)) : Prop where
  prod : prodPow l * m = n
  inc : l.Pairwise (fun a b => a.1 < b.1)
  pr : ∀ a ∈ l, IsPr a.1 ∧ 1 ≤ a.2 ∧ a.1 < d
  nod : NoDiv m d
  m1 : 1 ≤ m
theorem Fac.start (n : Nat) (h : 1 ≤ n) : Fac n n 2 [] := ⟨by simp [prodPow], List.Pairwise.nil, by simp, NoDiv.start n, h⟩
theorem Fac.last {n d : Nat} {l : List (Nat × Nat)} (h : Fac n 1 d l) : Factors n l :=
  ⟨by have := h.prod; omega, h.inc, fun a ha => ⟨(h.pr a ha).1, (h.pr a ha).2.1⟩⟩
/-- Where no square is left, the number itself is the next one. -/
theorem Fac.jump {n m d : Nat} {l : List (Nat × Nat)} (h : Fac n m d l) (h2 : 2 ≤ m) (hs : m < d * d) : Fac n m m l := by
  have hp := h.nod.prime h2 hs
  have hd := h.nod.ge h2
  exact ⟨h.prod, h.inc, fun a ha => ⟨(h.pr a ha).1, (h.pr a ha).2.1, by have := (h.pr a ha).2.2; omega⟩, fun e h1 h3 h4 => hp.2 e h1 h3 h4, h.m1⟩
theorem Fac.skip {n m d : Nat} {l : List (Nat × Nat)} (h : Fac n m d l) (hd : ¬ d ∣ m) : Fac n m (d + 1) l :=
  ⟨h.prod, h.inc, fun a ha => ⟨(h.pr a ha).1, (h.pr a ha).2.1, by have := (h.pr a ha).2.2; omega⟩, h.nod.next hd, h.m1⟩
theorem Fac.take {n m d k m2 : Nat} {l : List (Nat × Nat)} (h : Fac n m d l) (h2 : 2 ≤ d) (hk : 1 ≤ k) (he : d ^ k * m2 = m) (hn : ¬ d ∣ m2) : Fac n m2 (d + 1) (l ++ [(d, k)]) := by
  have hdm : d ∣ m := by
    rw [← he]
    refine ⟨d ^ (k - 1) * m2, ?_⟩
    rw [← Nat.mul_assoc, Nat.mul_comm d, ← Nat.pow_succ]
    congr 2; omega
  have hpd := h.nod.divisor h2 hdm
  refine ⟨?_, ?_, ?_, (h.nod.of_dvd ⟨d ^ k, by rw [← he, Nat.mul_comm]⟩).next hn, ?_⟩
  · rw [prodPow_append]; simp only [prodPow, Nat.mul_one]; rw [Nat.mul_assoc, he]; exact h.prod
  · rw [List.pairwise_append]
    refine ⟨h.inc, by simp, fun a ha b hb => ?_⟩
    simp at hb; subst hb
    exact (h.pr a ha).2.2
  · intro a ha
    rw [List.mem_append] at ha
    rcases ha with ha | ha
    · exact ⟨(h.pr a ha).1, (h.pr a ha).2.1, by have := (h.pr a ha).2.2; omega⟩
    · simp at ha; subst ha
      exact ⟨hpd, hk, Nat.lt_succ_self _⟩
  · rcases Nat.eq_zero_or_pos m2 with h0 | h0
    · subst h0; simp at he; have := h.m1; omega
    · exact h0
theorem quo_step {d m m2 k : Nat} (h : d ^ k * m2 = m) (hd : d ∣ m2) : d ^ (k + 1) * (m2 / d) = m := by
  rw [Nat.pow_succ, Nat.mul_assoc, Nat.mul_div_cancel' hd, h]
end Go.Proofs.Ytgdcmebhopjfaaa
namespace Go.Proofs.Ytgdcmebhopjfaaa

/-- Two lists that grow and hold the same numbers are one. -/
theorem sorted_ext : ∀ {l m : List Nat}, l.Pairwise (· < ·) → m.Pairwise (· < ·) → (∀ x, x ∈ l ↔ x ∈ m) → l = m := by
  intro l
  induction l with
  | nil =>
    intro m _ _ h
    cases m with
    | nil => rfl
    | cons b m => exact absurd ((h b).2 (List.mem_cons_self ..)) (by simp)
  | cons a l ih =>
    intro m hl hm h
    cases m with
    | nil => exact absurd ((h a).1 (List.mem_cons_self ..)) (by simp)
    | cons b m =>
      rw [List.pairwise_cons] at hl hm
      have hab : a = b := by
        have h1 := (h a).1 (List.mem_cons_self ..)
        have h2 := (h b).2 (List.mem_cons_self ..)
        rw [List.mem_cons] at h1 h2
        rcases h1 with h1 | h1
        · exact h1
        · rcases h2 with h2 | h2
          · exact h2.symm
          · have := hm.1 a h1; have := hl.1 b h2; omega
      subst hab
      congr 1
      refine ih hl.2 hm.2 fun x => ?_
      have hx := h x
      rw [List.mem_cons, List.mem_cons] at hx
      constructor
      · intro hxl
        rcases hx.1 (.inr hxl) with h1 | h1
        · subst h1; exact absurd (hl.1 x hxl) (Nat.lt_irrefl _)
        · exact h1
      · intro hxm
        rcases hx.2 (.inr hxm) with h1 | h1
        · subst h1; exact absurd (hm.1 x hxm) (Nat.lt_irrefl _)
        · exact h1
def divp (n d : Nat) : Bool := decide (1 ≤ d ∧ d ∣ n)
/-- The divisors of n, in order. -/
def divs (n : Nat) : List Nat := (List.range (n + 1)).filter (divp n)
theorem mem_divs {n d : Nat} (hn : 1 ≤ n) : d ∈ divs n ↔ 1 ≤ d ∧ d ∣ n := by
  simp only [divs, List.mem_filter, List.mem_range, divp, decide_eq_true_eq]
  constructor
  · exact fun h => h.2
  · exact fun h => ⟨by have := Nat.le_of_dvd (by omega) h.2; omega, h⟩
theorem range_sorted (k : Nat) : (List.range k).Pairwise (· < ·) := List.pairwise_lt_range
theorem divs_sorted (n : Nat) : (divs n).Pairwise (· < ·) := (range_sorted _).filter _
/-- The divisors below k. -/
def lows (n k : Nat) : List Nat := (List.range k).filter (divp n)
def highs (n k : Nat) : List Nat := ((lows n k).filter fun d => decide (d * d < n)).map fun d => n / d
theorem mem_lows {n k d : Nat} : d ∈ lows n k ↔ d < k ∧ 1 ≤ d ∧ d ∣ n := by simp [lows, divp]
theorem mem_highs {n k e : Nat} : e ∈ highs n k ↔ ∃ d, d < k ∧ 1 ≤ d ∧ d ∣ n ∧ d * d < n ∧ n / d = e := by
  simp only [highs, List.mem_map, List.mem_filter, mem_lows, decide_eq_true_eq]
  constructor
  · rintro ⟨d, ⟨⟨h1, h2, h3⟩, h4⟩, h5⟩; exact ⟨d, h1, h2, h3, h4, h5⟩
  · rintro ⟨d, h1, h2, h3, h4, h5⟩; exact ⟨d, ⟨⟨h1, h2, h3⟩, h4⟩, h5⟩
theorem lows_succ (n k : Nat) (h : divp n k = true) : lows n (k + 1) = lows n k ++ [k] := by
  unfold lows; rw [List.range_succ, List.filter_append]; simp [h]
theorem lows_skip (n k : Nat) (h : divp n k = false) : lows n (k + 1) = lows n k := by
  unfold lows; rw [List.range_succ, List.filter_append]; simp [h]
theorem highs_succ (n k : Nat) (h : divp n k = true) (h2 : k * k < n) : highs n (k + 1) = highs n k ++ [n / k] := by
  unfold highs; rw [lows_succ n k h, List.filter_append, List.map_append]; simp [h2]
theorem highs_same (n k : Nat) (h : divp n k = true) (h2 : ¬ k * k < n) : highs n (k + 1) = highs n k := by
  unfold highs; rw [lows_succ n k h, List.filter_append, List.map_append]; simp [h2]
theorem highs_skip (n k : Nat) (h : divp n k = false) : highs n (k + 1) = highs n k := by unfold highs; rw [lows_skip n k h]
theorem quo_lt {n d e : Nat} (hn : 1 ≤ n) (hd : 1 ≤ d) (h1 : d ∣ n) (h2 : e ∣ n) (h : d < e) : n / e < n / d := by
  obtain ⟨c, rfl⟩ := h1
  obtain ⟨b, hb⟩ := h2
  have he : 0 < e := by omega
  have hc : 0 < c := by rcases Nat.eq_zero_or_pos c with h0 | h0; · subst h0; omega
                        · exact h0
  rw [Nat.mul_div_cancel_left _ (by omega : 0 < d), hb, Nat.mul_div_cancel_left _ he]
  rcases Nat.lt_or_ge b c with h3 | h3
  · exact h3
  · have h4 : d * c < e * b := Nat.lt_of_lt_of_le ((Nat.mul_lt_mul_right hc).2 h) (Nat.mul_le_mul_left e h3)
    omega
theorem divs_eq {n k : Nat} (hn : 1 ≤ n) (h1 : ∀ d, d < k → d * d ≤ n) (h2 : n < k * k) : lows n k ++ (highs n k).reverse = divs n := by
  apply sorted_ext
  · rw [List.pairwise_append]
    refine ⟨(range_sorted _).filter _, ?_, ?_⟩
    · rw [List.pairwise_reverse]
      unfold highs
      rw [List.pairwise_map]
      refine List.Pairwise.imp_of_mem ?_ (((range_sorted k).filter (divp n)).filter _)
      intro a b ha hb hab
      have ha2 := (mem_lows.1 (List.mem_filter.1 ha).1)
      have hb2 := (mem_lows.1 (List.mem_filter.1 hb).1)
      exact quo_lt hn ha2.2.1 ha2.2.2 hb2.2.2 hab
    · intro a ha b hb
      rw [List.mem_reverse, mem_highs] at hb
      obtain ⟨d, hd1, hd2, hd3, hd4, rfl⟩ := hb
      obtain ⟨c, rfl⟩ := hd3
      rw [Nat.mul_div_cancel_left _ (by omega : 0 < d)]
      have haa := h1 a (mem_lows.1 ha).1
      have hdc : d < c := Nat.lt_of_mul_lt_mul_left hd4
      rcases Nat.lt_or_ge a c with h3 | h3
      · exact h3
      · have h4 : c * c ≤ a * a := Nat.mul_le_mul h3 h3
        have h5 : d * c < c * c := (Nat.mul_lt_mul_right (by omega)).2 hdc
        omega
  · exact divs_sorted n
  · intro x
    rw [mem_divs hn, List.mem_append, List.mem_reverse, mem_lows, mem_highs]
    constructor
    · rintro (⟨_, h3, h4⟩ | ⟨d, h3, h4, ⟨c, rfl⟩, h6, rfl⟩)
      · exact ⟨h3, h4⟩
      · rw [Nat.mul_div_cancel_left _ (by omega : 0 < d)]
        refine ⟨?_, ⟨d, by rw [Nat.mul_comm]⟩⟩
        rcases Nat.eq_zero_or_pos c with h0 | h0
        · subst h0; omega
        · exact h0
    · rintro ⟨h3, c, rfl⟩
      by_cases hxk : x < k
      · exact .inl ⟨hxk, h3, ⟨c, rfl⟩⟩
      · right
        have hc0 : 0 < c := by
          rcases Nat.eq_zero_or_pos c with h0 | h0
          · subst h0; omega
          · exact h0
        have hck : c < k := by
          rcases Nat.lt_or_ge c k with h4 | h4
          · exact h4
          · have := Nat.mul_le_mul (show k ≤ x by omega) h4; omega
        refine ⟨c, hck, hc0, ⟨x, by rw [Nat.mul_comm]⟩, ?_, by rw [Nat.mul_div_cancel _ hc0]⟩
        exact (Nat.mul_lt_mul_right hc0).2 (by omega)
end Go.Proofs.Ytgdcmebhopjfaaa
