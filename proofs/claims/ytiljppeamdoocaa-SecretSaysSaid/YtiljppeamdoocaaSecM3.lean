/- Contracts of package euclid: each function returns what plain arithmetic says; the world stays but for draws. -/
import Derived.Test.YtiljppeamdoocaaRows
import Derived.WalkKit
import Derived.WalkSpells
import Derived.WalkLawsBesides
import Derived.Deep.QuietTactic
import Derived.BigQuiet
import Derived.Lib.Hide
import Derived.Handy
import Derived.Test.YtiljppeamdoocaaSecM0
import Derived.Test.YtiljppeamdoocaaSecM2
namespace Go.Proofs.Ytiljppeamdoocaa
open Go.RowKit

set_option maxHeartbeats 400000 in
theorem euclid_gcd (a b : Int) (w : World) (ha : -1000000000 ≤ a) (ha' : a ≤ 1000000000) (hb : -1000000000 ≤ b) (hb' : b ≤ 1000000000) :
    Calls Try.prog 123 #[.int .i64 a, .int .i64 b] w fun e w' => e = .returned (.int .i64 (gI a b)) ∧ ∃ n, w' = w.drewN n := by
  go_enter Try.func123, Try.ntmps123
  go_wp2
  go_loopw [0, 1] (fun x y wr => ∃ c d : Int, x = .int .i64 c ∧ y = .int .i64 d ∧ Hid (Int.gcd c d = Int.gcd a b) ∧ -1000000000 ≤ c ∧ c ≤ 1000000000 ∧ -1000000000 ≤ d ∧ d ≤ 1000000000 ∧ ∃ n, wr = w.drewN n) (fun _ y _ => (intOf y).natAbs)
  case atStart => exact ⟨a, b, rfl, rfl, rfl, ha, ha', hb, hb', 0, rfl⟩
  case round =>
    obtain ⟨c, d, rfl, rfl, hg, hc, hc', hd, hd', n, rfl⟩ := hrel
    go_wp2
    · have h : (d != 0) = true := by assumption
      have hd0 : d ≠ 0 := by simpa using h
      go_quiet (fail)
      go_wp2
      go_roundw
      case rel => exact ⟨d, c.tmod d, rfl, rfl, by have := hg; unfold Hid at *; rw [gcd_tmod]; exact this, hd, hd', (tmod_in c d _ ⟨hc, hc'⟩).1, (tmod_in c d _ ⟨hc, hc'⟩).2, dr2 _ _ _⟩
      case measure => exact tmod_lt c d hd0
    all_goals
      have h : (d != 0) = false := by assumption
      have hd0 : d = 0 := by simpa using h
      have hgo := hg.out
      go_ret
      refine ⟨?_, _, rfl⟩
      unfold gI
      rw [← hgo, hd0]
      congr 2
      simp [Int.gcd]
      omega

set_option maxHeartbeats 400000 in
theorem euclid_in_yes (a : Int) (w : World) (h1 : -1000000000 ≤ a) (h2 : a ≤ 1000000000) :
    Calls Try.prog 122 #[.int .i64 a] w fun e w' => e = .returned (.bool true) ∧ w = w' := by
  have h3 : decide (a ≤ 1000000000) = true := by simp; omega
  go_enter Try.func122, Try.ntmps122
  go_wp2
  go_ret
  exact ⟨by simp [h2], rfl⟩
set_option maxHeartbeats 400000 in
theorem euclid_in_no (a : Int) (w : World) (h : a < -1000000000 ∨ 1000000000 < a) :
    Calls Try.prog 122 #[.int .i64 a] w fun e w' => e = .returned (.bool false) ∧ w = w' := by
  rcases h with h | h
  all_goals
    go_enter Try.func122, Try.ntmps122
    go_wp2
    go_ret
    exact ⟨by first | rfl | (simp; omega), rfl⟩

set_option maxHeartbeats 400000 in
theorem euclid_Gcd (a b : Int) (w : World) (ha : -1000000000 ≤ a) (ha' : a ≤ 1000000000) (hb : -1000000000 ≤ b) (hb' : b ≤ 1000000000) :
    Calls Try.prog 77 #[.int .i64 a, .int .i64 b] w fun e w' => e = .returned (.tuple #[.int .i64 (gI a b), .int .i64 0]) ∧ ∃ n, w' = w.drewN n := by
  go_enter Try.func77, Try.ntmps77
  go_wp2_with (first | (go_at_call 122; refine (euclid_in_yes _ _ (by omega) (by omega)).mono ?_; rintro e w' ⟨rfl, rfl⟩) | (go_at_call 123; refine (euclid_gcd a b _ ha ha' hb hb').mono ?_; rintro e w' ⟨rfl, n, rfl⟩))
  go_ret2
  exact ⟨rfl, _, rfl⟩

set_option maxHeartbeats 400000 in
theorem euclid_Gcd_bad (a b : Int) (w : World) (h : (a < -1000000000 ∨ 1000000000 < a) ∨ (b < -1000000000 ∨ 1000000000 < b)) :
    Calls Try.prog 77 #[.int .i64 a, .int .i64 b] w fun e w' => e = .returned (.tuple #[.int .i64 0, .int .i64 1]) ∧ ∃ n, w' = w.drewN n := by
  by_cases ha : a < -1000000000 ∨ 1000000000 < a
  · go_enter Try.func77, Try.ntmps77
    go_wp2_with (go_at_call 122; refine (euclid_in_no _ _ ha).mono ?_; rintro e w' ⟨rfl, rfl⟩)
    go_ret2; exact ⟨rfl, 0, rfl⟩
  · have hb : b < -1000000000 ∨ 1000000000 < b := by omega
    go_enter Try.func77, Try.ntmps77
    go_wp2_with fail
    refine (euclid_in_yes _ _ (by omega) (by omega)).mono ?_; rintro e w' ⟨rfl, rfl⟩
    go_wp2_with fail
    refine (euclid_in_no _ _ hb).mono ?_; rintro e w' ⟨rfl, rfl⟩
    go_wp2_with fail
    go_ret2; exact ⟨rfl, 0, rfl⟩

set_option maxHeartbeats 400000 in
theorem euclid_mod (a m : Int) (w : World) (ha : -1000000000 ≤ a) (ha' : a ≤ 1000000000) (hm : 1 ≤ m) (hm' : m ≤ 1000000000) :
    Calls Try.prog 155 #[.int .i64 a, .int .i64 m] w fun e w' => e = .returned (.int .i64 (a % m)) ∧ ∃ n, w' = w.drewN n := by
  have h1 := tmod_in a m 1000000000 ⟨ha, ha'⟩
  have h2 : 0 ≤ a.tmod m + m := by have := Int.lt_tmod_of_pos a (b := m) (by omega); omega
  have hz : (m == 0) = false := by simp; omega
  go_enter Try.func155, Try.ntmps155
  go_wp2
  go_ret
  exact ⟨ret_int (mod_up a m hm), 0, rfl⟩

set_option maxHeartbeats 1000000 in
theorem euclid_inverse (a m : Int) (w : World) (ha : -1000000000 ≤ a) (ha' : a ≤ 1000000000) (hm : 1 ≤ m) (hm' : m ≤ 1000000000) (hg : Hid (Int.gcd a m = 1)) :
    Calls Try.prog 134 #[.int .i64 a, .int .i64 m] w fun e w' => e = .returned (.int .i64 (invOf a m)) ∧ ∃ n, w' = w.drewN n := by
  have h0 : 0 ≤ a % m := Int.emod_nonneg a (by omega)
  have h1 : a % m < m := Int.emod_lt_of_pos a (by omega)
  have HI : Hid (Inv (a % m) m (a % m) m 1 0) := Inv.start _ _ h0 (by omega) hm (by
    rw [gcd_emod]; exact hg.out)
  go_enter Try.func134, Try.ntmps134
  go_wp2_with (go_at_call 155; refine (euclid_mod a m _ ha ha' hm hm').mono ?_; rintro e w' ⟨rfl, n, rfl⟩)
  go_loopw [0, 5, 6, 7] (fun va vx vy vb wr => ∃ c x y d : Int, va = .int .i64 c ∧ vx = .int .i64 x ∧ vy = .int .i64 y ∧ vb = .int .i64 d ∧ Hid (Inv (a % m) m c d x y) ∧ ∃ n, wr = w.drewN n) (fun _ _ _ vb _ => (intOf vb).natAbs)
  case atStart => exact ⟨_, _, _, _, rfl, rfl, rfl, rfl, HI, _, rfl⟩
  case round =>
    obtain ⟨c, x, y, d, rfl, rfl, rfl, rfl, hI, n, rfl⟩ := hrel
    have hd0 := hI.out.b0'
    have hc0 := hI.out.a0'
    have hcm := hI.out.am
    have hdm := hI.out.bm
    have hxm := hI.out.xm
    have hym := hI.out.ym
    by_cases hd : d = 0
    · subst hd
      have hl : Hid (c = 1 ∧ m ∣ x * (a % m) - 1) := hI.out.last
      go_wp2_with (go_at_call 155; refine (euclid_mod x m _ (by omega) (by omega) hm hm').mono ?_; rintro e w' ⟨rfl, n2, rfl⟩)
      go_ret
      exact ⟨ret_int (invOf_eq (isInv_mod hm hl.out.2)).symm, _, rfl⟩
    · have hb := hI.out.bounds hd hm'
      have hS : Hid (Inv (a % m) m d (c - c / d * d) y (x - c / d * y)) := hI.out.step hd
      have hm2 : Hid ((c - c / d * d).natAbs < d.natAbs) := by
        have := Int.emod_lt_of_pos c (b := d) (by omega)
        have h3 := Int.emod_nonneg c hd
        have h4 := Int.emod_add_mul_ediv c d
        rw [Int.mul_comm] at h4
        show _ < _
        omega
      go_wp2
      go_roundw
      case rel => exact ⟨_, _, _, _, rfl, rfl, rfl, rfl, hS, _, rfl⟩
      case measure => exact hm2.out

set_option maxHeartbeats 400000 in
theorem euclid_Bezout_bad (a b : Int) (w : World) (h : (a < -1000000000 ∨ 1000000000 < a) ∨ (b < -1000000000 ∨ 1000000000 < b)) :
    Calls Try.prog 125 #[.int .i64 a, .int .i64 b] w fun e w' => e = .returned (.tuple #[.int .i64 0, .int .i64 0, .int .i64 0, .int .i64 1]) ∧ ∃ n, w' = w.drewN n := by
  go_enter Try.func125, Try.ntmps125
  go_wp2_with (go_at_call 77; refine (euclid_Gcd_bad a b _ h).mono ?_; rintro e w' ⟨rfl, n, rfl⟩)
  refine bodyPost_ret (results_tmp4 rfl _ _ _) rfl ?_
  exact ⟨rfl, _, rfl⟩

set_option maxHeartbeats 1000000 in
theorem euclid_Bezout (a b : Int) (w : World) (ha : -1000000000 ≤ a) (ha' : a ≤ 1000000000) (hb : -1000000000 ≤ b) (hb' : b ≤ 1000000000) :
    Calls Try.prog 125 #[.int .i64 a, .int .i64 b] w fun e w' => e = .returned (.tuple #[.int .i64 (bezX a b), .int .i64 (bezY a b), .int .i64 (gI a b), .int .i64 0]) ∧ ∃ n, w' = w.drewN n := by
  by_cases h0 : b = 0
  · subst h0
    have hy : Hid (bezY a 0 = 0) := by show _ = _; simp [bezY]
    have hx1 : Hid (0 < a → bezX a 0 = 1) := by show _ → _ = _; intro h; simp [bezX, h]
    have hx2 : Hid (a < 0 → bezX a 0 = -1) := by show _ → _ = _; intro h; simp [bezX, h]; omega
    have hx3 : Hid (a = 0 → bezX a 0 = 0) := by show _ → _ = _; intro h; simp [bezX, h]
    go_enter Try.func125, Try.ntmps125
    go_wp2_with (go_at_call 77; refine (euclid_Gcd a 0 _ ha ha' hb hb').mono ?_; rintro e w' ⟨rfl, n, rfl⟩)
    · have h : 0 < a := by assumption
      go_wp2
      refine bodyPost_ret (results_tmp4 rfl _ _ _) rfl ?_
      exact ⟨by rw [hx1.out h, hy.out]; rfl, _, rfl⟩
    · have h : a < 0 := by assumption
      go_wp2
      refine bodyPost_ret (results_tmp4 rfl _ _ _) rfl ?_
      exact ⟨by rw [hx2.out h, hy.out]; rfl, _, rfl⟩
    · have h : a ≤ 0 := by assumption
      have h2 : 0 ≤ a := by assumption
      refine bodyPost_ret (results_tmp4 rfl _ _ _) rfl ?_
      exact ⟨by rw [hx3.out (by omega), hy.out]; rfl, _, rfl⟩
  · have hz : (b == 0) = false := by simpa using h0
    have S : BezSteps a b := bezSteps a b ha ha' hb hb' h0
    have g1 := S.g1; have gm := S.gm; have lo := S.lo; have hi := S.hi; have m1 := S.m1; have mm := S.mm; have x0 := S.x0; have xm := S.xm
    have plo := S.plo; have phi := S.phi; have ylo := S.ylo; have yhi := S.yhi
    go_enter Try.func125, Try.ntmps125
    go_wp2_with (go_at_call 77; refine (euclid_Gcd a b _ ha ha' hb hb').mono ?_; rintro e w' ⟨rfl, n, rfl⟩)
    go_quiet ((go_at_call 134; exact quiet_at (fun W => euclid_inverse _ _ W lo hi m1 mm S.gcd)))
    rw [S.x]
    go_wp2
    all_goals
      go_quiet (fail)
      go_wp2
      refine bodyPost_ret (results_tmp4 rfl _ _ _) rfl ?_
      exact ⟨by rw [← S.y]; rfl, dr2 _ _ _⟩

/-- The least common multiple. -/
def lcmI (a b : Int) : Int := if a = 0 ∨ b = 0 then 0 else max (a.tdiv (gI a b) * b) (-(a.tdiv (gI a b) * b))

/-- How often one divides, at numbers from 0 on. -/
def stepsN : Nat → Nat → Nat → Nat
  | 0, _, _ => 0
  | f + 1, a, b => if b = 0 then 0 else stepsN f b (a % b) + 1
theorem stepsN_more (f : Nat) : ∀ g a b : Nat, b < f → b < g → stepsN f a b = stepsN g a b := by
  induction f with
  | zero => intro g a b h; omega
  | succ f ih =>
    intro g a b hf hg
    cases g with
    | zero => omega
    | succ g =>
      simp only [stepsN]
      by_cases hb : b = 0
      · simp [hb]
      · have := Nat.mod_lt a (show b > 0 by omega)
        rw [if_neg hb, if_neg hb, ih g b (a % b) (by omega) (by omega)]
def stepsI (a b : Int) : Int := (stepsN (b.toNat + 1) a.toNat b.toNat : Int)
theorem stepsI_zero (a : Int) : stepsI a 0 = 0 := rfl
theorem stepsI_succ (a b : Int) (ha : 0 ≤ a) (hb : 1 ≤ b) : stepsI a b = stepsI b (a % b) + 1 := by
  obtain ⟨x, rfl⟩ := Int.eq_ofNat_of_zero_le ha
  obtain ⟨y, rfl⟩ := Int.eq_ofNat_of_zero_le (show 0 ≤ b by omega)
  have e : ((x : Int) % (y : Int)) = ((x % y : Nat) : Int) := rfl
  unfold stepsI
  rw [e]
  simp only [Int.toNat_natCast]
  rw [show stepsN (y + 1) x y = stepsN y y (x % y) + 1 by rw [stepsN, if_neg (by omega)]]
  rw [stepsN_more y (x % y + 1) y (x % y) (Nat.mod_lt _ (by omega)) (by omega)]
  rfl
theorem stepsI_bd (a b : Int) : 0 ≤ stepsI a b ∧ stepsI a b ≤ b.toNat := by
  have H : ∀ (f a b : Nat), stepsN f a b ≤ b := by
    intro f
    induction f with
    | zero => intro a b; simp [stepsN]
    | succ f ih =>
      intro a b
      rw [stepsN]
      split
      · omega
      · have := ih b (a % b); have := Nat.mod_lt a (show b > 0 by omega); omega
  have := H (b.toNat + 1) a.toNat b.toNat
  unfold stepsI
  omega

end Go.Proofs.Ytiljppeamdoocaa
namespace Go.Proofs.Ytiljppeamdoocaa
open Go.RowKit

set_option maxHeartbeats 400000 in
theorem rest_Of (a m : Int) (w : World) (ha : -9223372036854775808 ≤ a) (ha' : a ≤ 9223372036854775807) (hm : 1 ≤ m) (hm' : m ≤ 1000000) :
    Calls Try.prog 82 #[.int .i64 a, .int .i64 m] w fun e w' => e = .returned (.tuple #[.int .i64 (a % m), .int .i64 0]) ∧ ∃ n, w' = w.drewN n := by
  have h1 : -1000000 ≤ a.tmod m ∧ a.tmod m ≤ 1000000 := by
    have := Int.lt_tmod_of_pos a (b := m) (by omega); have := Int.tmod_lt_of_pos a (b := m) (by omega); omega
  have h2 : 0 ≤ a.tmod m + m := by have := Int.lt_tmod_of_pos a (b := m) (by omega); omega
  have hz : (m == 0) = false := by simp; omega
  have hmz : ¬ m = 0 := by omega
  have d1 : decide (1000000 < m) = false := by simp; omega
  have hR := Lib.hid (mod_up a m hm)
  go_enter Try.func82, Try.ntmps82
  go_wp2
  go_ret2
  exact ⟨by rw [← hR.out]; rfl, 0, rfl⟩
set_option maxHeartbeats 400000 in
theorem rest_Of_bad (a m : Int) (w : World) (hm : m < 1 ∨ 1000000 < m) :
    Calls Try.prog 82 #[.int .i64 a, .int .i64 m] w fun e w' => e = .returned (.tuple #[.int .i64 0, .int .i64 1]) ∧ ∃ n, w' = w.drewN n := by
  by_cases h : m < 1
  · go_enter Try.func82, Try.ntmps82
    go_wp2_with fail
    go_ret2
    exact ⟨rfl, 0, rfl⟩
  · have d1 : decide (1000000 < m) = true := by simp; omega
    go_enter Try.func82, Try.ntmps82
    go_wp2_with fail
    go_ret2
    exact ⟨rfl, 0, rfl⟩

set_option maxHeartbeats 400000 in
theorem ref_Rest (a m : Int) (w : World) (ha : -9223372036854775808 ≤ a) (ha' : a ≤ 9223372036854775807) (hm : 1 ≤ m) (hm' : m ≤ 1000000000) :
    Calls Try.prog 74 #[.int .i64 a, .int .i64 m] w fun e w' => e = .returned (.int .i64 (a % m)) ∧ ∃ n, w' = w.drewN n := by
  have hmz : ¬ m = 0 := by omega
  have hz : (m == 0) = false := by simp; omega
  have l1 := Int.lt_tmod_of_pos a (b := m) (by omega)
  have l2 := Int.tmod_lt_of_pos a (b := m) (by omega)
  by_cases h : a.tmod m < 0
  · have hR : Hid (a.tmod m + m = a % m) := by
      show _ = _
      have := mod_up a m hm
      rw [Int.emod_eq_of_lt (by omega) (by omega)] at this
      exact this
    go_enter Try.func74, Try.ntmps74
    go_wp2
    go_ret
    exact ⟨ret_int hR.out, 0, rfl⟩
  · have hR : Hid (a.tmod m = a % m) := by
      show _ = _
      have := mod_up a m hm
      rw [Int.add_emod_right, Int.emod_eq_of_lt (by omega) (by omega)] at this
      exact this
    go_enter Try.func74, Try.ntmps74
    go_wp2
    go_ret
    exact ⟨ret_int hR.out, 0, rfl⟩
set_option maxHeartbeats 400000 in
theorem ref_mod (a m : Int) (w : World) (ha : -9223372036854775808 ≤ a) (ha' : a ≤ 9223372036854775807) (hm : 1 ≤ m) (hm' : m ≤ 1000000000) :
    Calls Try.prog 102 #[.int .i64 a, .int .i64 m] w fun e w' => e = .returned (.int .i64 (a % m)) ∧ ∃ n, w' = w.drewN n := by
  go_enter Try.func102, Try.ntmps102
  go_wp2_with (go_at_call 74; refine (ref_Rest a m _ ha ha' hm hm').mono ?_; rintro e w' ⟨rfl, n, rfl⟩)
  go_ret
  exact ⟨rfl, _, rfl⟩

set_option maxHeartbeats 1000000 in
theorem ref_PowOf (f : Nat) : ∀ (a : Int) (n : Nat) (m : Int) (w : World), n < 2 ^ f → n < 9223372036854775808 → -9223372036854775808 ≤ a → a ≤ 9223372036854775807 → 1 ≤ m → m ≤ 1000000 →
    Calls Try.prog 104 #[.int .i64 a, .int .i64 n, .int .i64 m] w fun e w' => e = .returned (.int .i64 (pwm a n m)) ∧ ∃ n, w' = w.drewN n := by
  induction f with
  | zero =>
    intro a n m w hf hn ha ha' hm hm'
    obtain rfl : n = 0 := by simpa using hf
    have hmz : ¬ m = 0 := by omega
    go_enter Try.func104, Try.ntmps104
    go_wp2_with fail
    go_ret
    exact ⟨by unfold pwm; rw [Int.pow_zero]; rfl, 0, rfl⟩
  | succ f ih =>
    intro a n m w hf hn ha ha' hm hm'
    have hmz : ¬ m = 0 := by omega
    by_cases h0 : n = 0
    · subst h0
      clear ih
      go_enter Try.func104, Try.ntmps104
      go_wp2_with fail
      go_ret
      exact ⟨by unfold pwm; rw [Int.pow_zero]; rfl, 0, rfl⟩
    · have hz : ((n : Int) == 0) = false := by simp; omega
      obtain ⟨x0, x1⟩ := pwm_nonneg a (n / 2) hm
      obtain ⟨q0, q1⟩ := prod_bd (M := 1000000) x0 (by omega) x0 (by omega)
      have hh := pwm_half a (n / 2 * 2 / 2) m
      have c := Lib.hid (fun W => ih a (n / 2) m W (by rw [Nat.pow_succ] at hf; omega) (by omega) ha ha' hm hm')
      have hhalf : Hid (pwm a (n / 2) m * pwm a (n / 2) m % m = pwm a (2 * (n / 2)) m) := pwm_half a n m
      clear ih hh
      rcases Nat.mod_two_eq_zero_or_one n with hp | hp
      · have hb : ((n : Int) % 2 == 1) = false := by simp; omega
        have hR : Hid (pwm a (n / 2) m * pwm a (n / 2) m % m = pwm a n m) := by
          show _ = _
          rw [hhalf.out]; congr 1; omega
        clear hp
        go_enter Try.func104, Try.ntmps104
        go_wp2_with fail
        refine (c.out _).mono ?_; rintro e w' ⟨rfl, n1, rfl⟩
        go_wp2_with fail
        go_ret
        exact ⟨ret_int hR.out, _, rfl⟩
      · have hb : ((n : Int) % 2 == 1) = true := by simp; omega
        have y0 : 0 ≤ pwm a (n / 2) m * pwm a (n / 2) m % m := Int.emod_nonneg _ hmz
        have y1 : pwm a (n / 2) m * pwm a (n / 2) m % m < m := Int.emod_lt_of_pos _ (by omega)
        have z0 : 0 ≤ a % m := Int.emod_nonneg _ hmz
        have z1 : a % m < m := Int.emod_lt_of_pos _ (by omega)
        obtain ⟨r0, r1⟩ := prod_bd (M := 1000000) y0 (by omega) z0 (by omega)
        have hR : Hid (pwm a (n / 2) m * pwm a (n / 2) m % m * (a % m) % m = pwm a n m) := by
          show _ = _
          rw [hhalf.out, pwm_succ]; congr 1; omega
        clear hp
        go_enter Try.func104, Try.ntmps104
        go_wp2_with fail
        refine (c.out _).mono ?_; rintro e w' ⟨rfl, n1, rfl⟩
        go_wp2_with fail
        refine (ref_mod a m _ ha ha' hm (by omega)).mono ?_; rintro e w' ⟨rfl, n2, rfl⟩
        go_wp2_with fail
        go_ret
        exact ⟨ret_int hR.out, _, rfl⟩
end Go.Proofs.Ytiljppeamdoocaa
namespace Go.Proofs.Ytiljppeamdoocaa

theorem pigeon : ∀ (n : Nat) (f : Nat → Nat), (∀ i, i ≤ n → f i < n) → ∃ i j, i < j ∧ j ≤ n ∧ f i = f j := by
  intro n
  induction n with
  | zero => intro f h; have := h 0 (by omega); omega
  | succ n ih =>
    intro f h
    by_cases hv : ∃ i, i ≤ n ∧ f i = f (n + 1)
    · obtain ⟨i, hi, he⟩ := hv
      exact ⟨i, n + 1, by omega, by omega, he⟩
    · have hno : ∀ i, i ≤ n → f i ≠ f (n + 1) := fun i hi he => hv ⟨i, hi, he⟩
      have hvb := h (n + 1) (Nat.le_refl _)
      obtain ⟨i, j, hij, hj, he⟩ := ih (fun i => if f i = n then f (n + 1) else f i) (fun i hi => by
        have h1 := h i (by omega)
        have h2 := hno i hi
        show (if f i = n then f (n + 1) else f i) < n
        split <;> omega)
      refine ⟨i, j, hij, by omega, ?_⟩
      have h1 := hno i (by omega)
      have h2 := hno j hj
      split at he <;> split at he <;> omega
theorem first_nat {p : Nat → Prop} {k : Nat} (h : p k) : ∃ m, m ≤ k ∧ p m ∧ ∀ j, j < m → ¬ p j := by
  induction k using Nat.strongRecOn with
  | _ k ih =>
    by_cases hh : ∃ j, j < k ∧ p j
    · obtain ⟨j, hj, hp⟩ := hh
      obtain ⟨m, hm, h2⟩ := ih j hj hp
      exact ⟨m, by omega, h2⟩
    · exact ⟨k, Nat.le_refl _, h, fun j hj hp => hh ⟨j, hj, hp⟩⟩

/-- Where x undoes a, equal powers may be shortened. -/
theorem cancel_pow {a x m : Int} (hx : x * a % m = 1 % m) (i d : Nat) (h : pwm a i m = pwm a (i + d) m) : pwm a d m = 1 % m := by
  induction i with
  | zero => rw [Nat.zero_add] at h; rw [← h]; unfold pwm; rw [Int.pow_zero]
  | succ i ih =>
    apply ih
    have e : ∀ n : Nat, x * a ^ (n + 1) % m = pwm a n m := fun n => by
      unfold pwm
      rw [Int.pow_succ, Int.mul_comm (a ^ n) a, ← Int.mul_assoc, Int.mul_emod, hx, ← Int.mul_emod, Int.one_mul]
    have h1 : x * a ^ (i + 1) % m = x * a ^ (i + 1 + d) % m := by
      rw [Int.mul_emod, Int.mul_emod x (a ^ (i + 1 + d))]
      have : a ^ (i + 1) % m = a ^ (i + 1 + d) % m := h
      rw [this]
    rw [e i, show i + 1 + d = (i + d) + 1 by omega, e (i + d)] at h1
    exact h1
/-- k is the order of a modulo m. -/
def IsOrder (a m : Int) (k : Nat) : Prop := 1 ≤ k ∧ pwm a k m = 1 % m ∧ ∀ j, 1 ≤ j → j < k → pwm a j m ≠ 1 % m
theorem order_exists {a x m : Int} (hm : 1 ≤ m) (hx : x * a % m = 1 % m) : ∃ k, IsOrder a m k ∧ k ≤ m.toNat := by
  obtain ⟨i, j, hij, hj, he⟩ := pigeon m.toNat (fun i => (pwm a i m).toNat) (fun i _ => by have := pwm_nonneg a i hm; show (pwm a i m).toNat < m.toNat; omega)
  have h1 := pwm_nonneg a i hm
  have h2 := pwm_nonneg a j hm
  have he2 : pwm a i m = pwm a (i + (j - i)) m := by
    rw [show i + (j - i) = j by omega]; have he3 : (pwm a i m).toNat = (pwm a j m).toNat := he; omega
  have h3 := cancel_pow hx i (j - i) he2
  obtain ⟨k, hk, ⟨hk1, hk2⟩, hk3⟩ := first_nat (p := fun k => 1 ≤ k ∧ pwm a k m = 1 % m) (k := j - i) ⟨by omega, h3⟩
  exact ⟨k, ⟨hk1, hk2, fun j h4 h5 h6 => hk3 j h5 ⟨h4, h6⟩⟩, by omega⟩
end Go.Proofs.Ytiljppeamdoocaa
namespace Go.Proofs.Ytiljppeamdoocaa
open Go.RowKit

theorem gcd_half (c d : Nat) (hc : c % 2 = 0) (hd : d % 2 = 1) : Nat.gcd (c / 2) d = Nat.gcd c d := by
  have e : c = 2 * (c / 2) := by omega
  have h2 : Nat.Coprime 2 d := by
    rw [Nat.Coprime, Nat.gcd_rec, hd]; rfl
  rw [e, Nat.Coprime.gcd_mul_left_cancel _ h2]
  congr 1; omega
theorem gcd_half' (c d : Nat) (hc : c % 2 = 1) (hd : d % 2 = 0) : Nat.gcd c (d / 2) = Nat.gcd c d := by
  rw [Nat.gcd_comm, gcd_half d c hd hc, Nat.gcd_comm]
theorem gcd_both (c d t G : Nat) (hc : c % 2 = 0) (hd : d % 2 = 0) (h : Nat.gcd c d * 2 ^ t = G) : Nat.gcd (c / 2) (d / 2) * 2 ^ (t + 1) = G := by
  have e1 : c = 2 * (c / 2) := by omega
  have e2 : d = 2 * (d / 2) := by omega
  rw [e1, e2, Nat.gcd_mul_left] at h
  rw [← h, Nat.pow_succ]
  simp only [Nat.mul_assoc, Nat.mul_comm, Nat.mul_left_comm]
theorem or_even (c d : Nat) : (c ||| d) % 2 = 0 ↔ c % 2 = 0 ∧ d % 2 = 0 := by
  have h : ((c ||| d) % 2) = ((c % 2) ||| (d % 2)) := Nat.or_mod_two_pow (a := c) (b := d) (n := 1)
  rw [h]
  rcases Nat.mod_two_eq_zero_or_one c with h1 | h1 <;> rcases Nat.mod_two_eq_zero_or_one d with h2 | h2 <;> simp [h1, h2]

theorem gcd_less (m n : Nat) (h : n ≤ m) : Nat.gcd n (m - n) = Nat.gcd m n := by
  obtain ⟨k, rfl⟩ := Nat.exists_eq_add_of_le h
  rw [Nat.add_sub_cancel_left, Nat.gcd_comm (n + k) n]; simp
/-- A number beyond ten to the ninth. -/
def bigB (x : Int) : Bool := decide (x < -1000000000 ∨ 1000000000 < x)
end Go.Proofs.Ytiljppeamdoocaa
namespace Go.Proofs.Ytiljppeamdoocaa
open Go.RowKit

set_option maxRecDepth 20000 in
set_option maxHeartbeats 1000000 in
theorem rest_Inverse (a m : Int) (w : World) (ha : -9223372036854775808 ≤ a) (ha' : a ≤ 9223372036854775807) (hm : 1 ≤ m) (hm' : m ≤ 1000000) (hg : gI (a % m) m = 1) :
    Calls Try.prog 80 #[.int .i64 a, .int .i64 m] w fun e w' => e = .returned (.tuple #[.int .i64 (bezX (a % m) m), .int .i64 0]) ∧ ∃ n, w' = w.drewN n := by
  have b0 : 0 ≤ a % m := Int.emod_nonneg _ (by omega)
  have b1 : a % m < m := Int.emod_lt_of_pos _ (by omega)
  go_enter Try.func80, Try.ntmps80
  go_wp2_with (first | (go_at_call 82; refine (rest_Of a m _ ha ha' hm hm').mono ?_; rintro e w' ⟨rfl, n1, rfl⟩) | (go_at_call 125; refine (euclid_Bezout (a % m) m _ (by omega) (by omega) (by omega) (by omega)).mono ?_; rintro e w' ⟨rfl, n2, rfl⟩))
  go_ret2
  exact ⟨rfl, _, rfl⟩
set_option maxRecDepth 20000 in
set_option maxHeartbeats 1000000 in
theorem rest_Inverse_none (a m : Int) (w : World) (ha : -9223372036854775808 ≤ a) (ha' : a ≤ 9223372036854775807) (hm : 1 ≤ m) (hm' : m ≤ 1000000) (hg : gI (a % m) m ≠ 1) :
    Calls Try.prog 80 #[.int .i64 a, .int .i64 m] w fun e w' => e = .returned (.tuple #[.int .i64 0, .int .i64 4]) ∧ ∃ n, w' = w.drewN n := by
  have b0 : 0 ≤ a % m := Int.emod_nonneg _ (by omega)
  have b1 : a % m < m := Int.emod_lt_of_pos _ (by omega)
  have hb : (gI (a % m) m != 1) = true := by simpa using hg
  clear hg
  go_enter Try.func80, Try.ntmps80
  go_wp2_with (first | (go_at_call 82; refine (rest_Of a m _ ha ha' hm hm').mono ?_; rintro e w' ⟨rfl, n1, rfl⟩) | (go_at_call 125; refine (euclid_Bezout (a % m) m _ (by omega) (by omega) (by omega) (by omega)).mono ?_; rintro e w' ⟨rfl, n2, rfl⟩))
  go_ret2
  exact ⟨rfl, _, rfl⟩
set_option maxRecDepth 20000 in
set_option maxHeartbeats 400000 in
theorem rest_Inverse_bad (a m : Int) (w : World) (hm : m < 1 ∨ 1000000 < m) :
    Calls Try.prog 80 #[.int .i64 a, .int .i64 m] w fun e w' => e = .returned (.tuple #[.int .i64 0, .int .i64 1]) ∧ ∃ n, w' = w.drewN n := by
  go_enter Try.func80, Try.ntmps80
  go_wp2_with (go_at_call 82; refine (rest_Of_bad a m _ hm).mono ?_; rintro e w' ⟨rfl, n1, rfl⟩)
  go_ret2
  exact ⟨rfl, _, rfl⟩
/-- What the inverse is. -/
theorem bez_inv {a m : Int} (hm : 1 ≤ m) (hg : gI a m = 1) : 0 ≤ bezX a m ∧ bezX a m < m ∧ bezX a m * a % m = 1 % m := by
  obtain ⟨h1, h2, h3⟩ := bez_law a m (by omega)
  rw [hg] at h2 h3
  refine ⟨h1, by simp at h2; omega, ?_⟩
  rw [← h3, Int.add_mul_emod_self_right]
noncomputable def ordI (a m : Int) : Nat := Classical.epsilon (IsOrder a m)
theorem ordI_spec {a m : Int} (hm : 1 ≤ m) (hg : gI (a % m) m = 1) : IsOrder (a % m) m (ordI (a % m) m) ∧ ordI (a % m) m ≤ m.toNat := by
  obtain ⟨k, hk, hkm⟩ := order_exists hm (bez_inv hm hg).2.2
  have hs := Classical.epsilon_spec (p := IsOrder (a % m) m) ⟨k, hk⟩
  refine ⟨hs, ?_⟩
  rcases Nat.lt_or_ge k (ordI (a % m) m) with h | h
  · exact absurd hk.2.1 (hs.2.2 k hk.1 h)
  · omega

end Go.Proofs.Ytiljppeamdoocaa
