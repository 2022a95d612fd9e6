/- Contracts of package euclid: each function returns what plain arithmetic says; the world stays but for draws. -/
import Derived.Test.YtmeffbooabionaaRows
import Derived.WalkKit
import Derived.WalkSpells
import Derived.WalkLawsBesides
import Derived.Deep.QuietTactic
import Derived.BigQuiet
import Derived.Lib.Hide
import Derived.Handy
import Derived.Test.YtmeffbooabionaaBase
import Derived.Test.YtmeffbooabionaaIrM16
set_option linter.unusedVariables false
set_option linter.unusedSimpArgs false
namespace Go.Proofs.Ytmeffbooabionaa
open Go.RowKit

set_option maxHeartbeats 400000 in
theorem euclid_gcd (a b : Int) (w : World) (ha : -1000000000 ≤ a) (ha' : a ≤ 1000000000) (hb : -1000000000 ≤ b) (hb' : b ≤ 1000000000) :
    Calls Try.prog 81 #[.int .i64 a, .int .i64 b] w fun e w' => e = .returned (.int .i64 (gI a b)) ∧ ∃ n, w' = w.drewN n := by
  go_enter Try.func81, Try.ntmps81
  go_wp2
  go_loopw [0, 1] (fun x y wr => ∃ c d : Int, x = .int .i64 c ∧ y = .int .i64 d ∧ Hid (Int.gcd c d = Int.gcd a b) ∧ -1000000000 ≤ c ∧ c ≤ 1000000000 ∧ -1000000000 ≤ d ∧ d ≤ 1000000000 ∧ ∃ n, wr = w.drewN n) (fun _ y _ => (intOf y).natAbs)
  case atStart => exact ⟨a, b, rfl, rfl, rfl, ha, ha', hb, hb', 0, rfl⟩
  case round =>
    obtain ⟨c, d, rfl, rfl, hg, hc, hc', hd, hd', n, rfl⟩ := hrel
    go_wp2
    · have h : (d != 0) = true := by assumption
      have hd0 : d ≠ 0 := by simpa using h
      go_quiet (fail)
      go_wp2
      go_roundw
      case rel => exact ⟨d, c.tmod d, rfl, rfl, by have := hg; unfold Hid at *; rw [gcd_tmod]; exact this, hd, hd', (tmod_in c d _ ⟨hc, hc'⟩).1, (tmod_in c d _ ⟨hc, hc'⟩).2, dr2 _ _ _⟩
      case measure => exact tmod_lt c d hd0
    all_goals
      have h : (d != 0) = false := by assumption
      have hd0 : d = 0 := by simpa using h
      have hgo := hg.out
      go_ret
      refine ⟨?_, _, rfl⟩
      unfold gI
      rw [← hgo, hd0]
      congr 2
      simp [Int.gcd]
      omega

set_option maxHeartbeats 400000 in
theorem euclid_in_yes (a : Int) (w : World) (h1 : -1000000000 ≤ a) (h2 : a ≤ 1000000000) :
    Calls Try.prog 80 #[.int .i64 a] w fun e w' => e = .returned (.bool true) ∧ w = w' := by
  have h3 : decide (a ≤ 1000000000) = true := by simp; omega
  go_enter Try.func80, Try.ntmps80
  go_wp2
  go_ret
  exact ⟨by simp [h2], rfl⟩
set_option maxHeartbeats 400000 in
theorem euclid_in_no (a : Int) (w : World) (h : a < -1000000000 ∨ 1000000000 < a) :
    Calls Try.prog 80 #[.int .i64 a] w fun e w' => e = .returned (.bool false) ∧ w = w' := by
  rcases h with h | h
  all_goals
    go_enter Try.func80, Try.ntmps80
    go_wp2
    go_ret
    exact ⟨by first | rfl | (simp; omega), rfl⟩

set_option maxHeartbeats 400000 in
theorem euclid_Gcd (a b : Int) (w : World) (ha : -1000000000 ≤ a) (ha' : a ≤ 1000000000) (hb : -1000000000 ≤ b) (hb' : b ≤ 1000000000) :
    Calls Try.prog 56 #[.int .i64 a, .int .i64 b] w fun e w' => e = .returned (.tuple #[.int .i64 (gI a b), .int .i64 0]) ∧ ∃ n, w' = w.drewN n := by
  go_enter Try.func56, Try.ntmps56
  go_wp2_with (first | (go_at_call 80; refine (euclid_in_yes _ _ (by omega) (by omega)).mono ?_; rintro e w' ⟨rfl, rfl⟩) | (go_at_call 81; refine (euclid_gcd a b _ ha ha' hb hb').mono ?_; rintro e w' ⟨rfl, n, rfl⟩))
  go_ret2
  exact ⟨rfl, _, rfl⟩

set_option maxHeartbeats 400000 in
theorem euclid_Gcd_bad (a b : Int) (w : World) (h : (a < -1000000000 ∨ 1000000000 < a) ∨ (b < -1000000000 ∨ 1000000000 < b)) :
    Calls Try.prog 56 #[.int .i64 a, .int .i64 b] w fun e w' => e = .returned (.tuple #[.int .i64 0, .int .i64 1]) ∧ ∃ n, w' = w.drewN n := by
  by_cases ha : a < -1000000000 ∨ 1000000000 < a
  · go_enter Try.func56, Try.ntmps56
    go_wp2_with (go_at_call 80; refine (euclid_in_no _ _ ha).mono ?_; rintro e w' ⟨rfl, rfl⟩)
    go_ret2; exact ⟨rfl, 0, rfl⟩
  · have hb : b < -1000000000 ∨ 1000000000 < b := by omega
    go_enter Try.func56, Try.ntmps56
    go_wp2_with fail
    refine (euclid_in_yes _ _ (by omega) (by omega)).mono ?_; rintro e w' ⟨rfl, rfl⟩
    go_wp2_with fail
    refine (euclid_in_no _ _ hb).mono ?_; rintro e w' ⟨rfl, rfl⟩
    go_wp2_with fail
    go_ret2; exact ⟨rfl, 0, rfl⟩

set_option maxHeartbeats 400000 in
theorem euclid_mod (a m : Int) (w : World) (ha : -1000000000 ≤ a) (ha' : a ≤ 1000000000) (hm : 1 ≤ m) (hm' : m ≤ 1000000000) :
    Calls Try.prog 128 #[.int .i64 a, .int .i64 m] w fun e w' => e = .returned (.int .i64 (a % m)) ∧ ∃ n, w' = w.drewN n := by
  have h1 := tmod_in a m 1000000000 ⟨ha, ha'⟩
  have h2 : 0 ≤ a.tmod m + m := by have := Int.lt_tmod_of_pos a (b := m) (by omega); omega
  have hz : (m == 0) = false := by simp; omega
  go_enter Try.func128, Try.ntmps128
  go_wp2
  go_ret
  exact ⟨ret_int (mod_up a m hm), 0, rfl⟩

set_option maxHeartbeats 1000000 in
theorem euclid_inverse (a m : Int) (w : World) (ha : -1000000000 ≤ a) (ha' : a ≤ 1000000000) (hm : 1 ≤ m) (hm' : m ≤ 1000000000) (hg : Hid (Int.gcd a m = 1)) :
    Calls Try.prog 123 #[.int .i64 a, .int .i64 m] w fun e w' => e = .returned (.int .i64 (invOf a m)) ∧ ∃ n, w' = w.drewN n := by
  have h0 : 0 ≤ a % m := Int.emod_nonneg a (by omega)
  have h1 : a % m < m := Int.emod_lt_of_pos a (by omega)
  have HI : Hid (Inv (a % m) m (a % m) m 1 0) := Inv.start _ _ h0 (by omega) hm (by
    rw [gcd_emod]; exact hg.out)
  go_enter Try.func123, Try.ntmps123
  go_wp2_with (go_at_call 128; refine (euclid_mod a m _ ha ha' hm hm').mono ?_; rintro e w' ⟨rfl, n, rfl⟩)
  go_loopw [0, 5, 6, 7] (fun va vx vy vb wr => ∃ c x y d : Int, va = .int .i64 c ∧ vx = .int .i64 x ∧ vy = .int .i64 y ∧ vb = .int .i64 d ∧ Hid (Inv (a % m) m c d x y) ∧ ∃ n, wr = w.drewN n) (fun _ _ _ vb _ => (intOf vb).natAbs)
  case atStart => exact ⟨_, _, _, _, rfl, rfl, rfl, rfl, HI, _, rfl⟩
  case round =>
    obtain ⟨c, x, y, d, rfl, rfl, rfl, rfl, hI, n, rfl⟩ := hrel
    have hd0 := hI.out.b0'
    have hc0 := hI.out.a0'
    have hcm := hI.out.am
    have hdm := hI.out.bm
    have hxm := hI.out.xm
    have hym := hI.out.ym
    by_cases hd : d = 0
    · subst hd
      have hl : Hid (c = 1 ∧ m ∣ x * (a % m) - 1) := hI.out.last
      go_wp2_with (go_at_call 128; refine (euclid_mod x m _ (by omega) (by omega) hm hm').mono ?_; rintro e w' ⟨rfl, n2, rfl⟩)
      go_ret
      exact ⟨ret_int (invOf_eq (isInv_mod hm hl.out.2)).symm, _, rfl⟩
    · have hb := hI.out.bounds hd hm'
      have hS : Hid (Inv (a % m) m d (c - c / d * d) y (x - c / d * y)) := hI.out.step hd
      have hm2 : Hid ((c - c / d * d).natAbs < d.natAbs) := by
        have := Int.emod_lt_of_pos c (b := d) (by omega)
        have h3 := Int.emod_nonneg c hd
        have h4 := Int.emod_add_mul_ediv c d
        rw [Int.mul_comm] at h4
        show _ < _
        omega
      go_wp2
      go_roundw
      case rel => exact ⟨_, _, _, _, rfl, rfl, rfl, rfl, hS, _, rfl⟩
      case measure => exact hm2.out

set_option maxHeartbeats 400000 in
theorem euclid_Bezout_bad (a b : Int) (w : World) (h : (a < -1000000000 ∨ 1000000000 < a) ∨ (b < -1000000000 ∨ 1000000000 < b)) :
    Calls Try.prog 110 #[.int .i64 a, .int .i64 b] w fun e w' => e = .returned (.tuple #[.int .i64 0, .int .i64 0, .int .i64 0, .int .i64 1]) ∧ ∃ n, w' = w.drewN n := by
  go_enter Try.func110, Try.ntmps110
  go_wp2_with (go_at_call 56; refine (euclid_Gcd_bad a b _ h).mono ?_; rintro e w' ⟨rfl, n, rfl⟩)
  refine bodyPost_ret (results_tmp4 rfl _ _ _) rfl ?_
  exact ⟨rfl, _, rfl⟩

set_option maxHeartbeats 1000000 in
theorem euclid_Bezout (a b : Int) (w : World) (ha : -1000000000 ≤ a) (ha' : a ≤ 1000000000) (hb : -1000000000 ≤ b) (hb' : b ≤ 1000000000) :
    Calls Try.prog 110 #[.int .i64 a, .int .i64 b] w fun e w' => e = .returned (.tuple #[.int .i64 (bezX a b), .int .i64 (bezY a b), .int .i64 (gI a b), .int .i64 0]) ∧ ∃ n, w' = w.drewN n := by
  by_cases h0 : b = 0
  · subst h0
    have hy : Hid (bezY a 0 = 0) := by show _ = _; simp [bezY]
    have hx1 : Hid (0 < a → bezX a 0 = 1) := by show _ → _ = _; intro h; simp [bezX, h]
    have hx2 : Hid (a < 0 → bezX a 0 = -1) := by show _ → _ = _; intro h; simp [bezX, h]; omega
    have hx3 : Hid (a = 0 → bezX a 0 = 0) := by show _ → _ = _; intro h; simp [bezX, h]
    go_enter Try.func110, Try.ntmps110
    go_wp2_with (go_at_call 56; refine (euclid_Gcd a 0 _ ha ha' hb hb').mono ?_; rintro e w' ⟨rfl, n, rfl⟩)
    · have h : 0 < a := by assumption
      go_wp2
      refine bodyPost_ret (results_tmp4 rfl _ _ _) rfl ?_
      exact ⟨by rw [hx1.out h, hy.out]; rfl, _, rfl⟩
    · have h : a < 0 := by assumption
      go_wp2
      refine bodyPost_ret (results_tmp4 rfl _ _ _) rfl ?_
      exact ⟨by rw [hx2.out h, hy.out]; rfl, _, rfl⟩
    · have h : a ≤ 0 := by assumption
      have h2 : 0 ≤ a := by assumption
      refine bodyPost_ret (results_tmp4 rfl _ _ _) rfl ?_
      exact ⟨by rw [hx3.out (by omega), hy.out]; rfl, _, rfl⟩
  · have hz : (b == 0) = false := by simpa using h0
    have S : BezSteps a b := bezSteps a b ha ha' hb hb' h0
    have g1 := S.g1; have gm := S.gm; have lo := S.lo; have hi := S.hi; have m1 := S.m1; have mm := S.mm; have x0 := S.x0; have xm := S.xm
    have plo := S.plo; have phi := S.phi; have ylo := S.ylo; have yhi := S.yhi
    go_enter Try.func110, Try.ntmps110
    go_wp2_with (go_at_call 56; refine (euclid_Gcd a b _ ha ha' hb hb').mono ?_; rintro e w' ⟨rfl, n, rfl⟩)
    go_quiet ((go_at_call 123; exact quiet_at (fun W => euclid_inverse _ _ W lo hi m1 mm S.gcd)))
    rw [S.x]
    go_wp2
    all_goals
      go_quiet (fail)
      go_wp2
      refine bodyPost_ret (results_tmp4 rfl _ _ _) rfl ?_
      exact ⟨by rw [← S.y]; rfl, dr2 _ _ _⟩

/-- The least common multiple. -/
def lcmI (a b : Int) : Int := if a = 0 ∨ b = 0 then 0 else max (a.tdiv (gI a b) * b) (-(a.tdiv (gI a b) * b))

/-- How often one divides, at numbers from 0 on. -/
def stepsN : Nat → Nat → Nat → Nat
  | 0, _, _ => 0
  | f + 1, a, b => if b = 0 then 0 else stepsN f b (a % b) + 1
theorem stepsN_more (f : Nat) : ∀ g a b : Nat, b < f → b < g → stepsN f a b = stepsN g a b := by
  induction f with
  | zero => intro g a b h; omega
  | succ f ih =>
    intro g a b hf hg
    cases g with
    | zero => omega
    | succ g =>
      simp only [stepsN]
      by_cases hb : b = 0
      · simp [hb]
      · have := Nat.mod_lt a (show b > 0 by omega)
        rw [if_neg hb, if_neg hb, ih g b (a % b) (by omega) (by omega)]
def stepsI (a b : Int) : Int := (stepsN (b.toNat + 1) a.toNat b.toNat : Int)
theorem stepsI_zero (a : Int) : stepsI a 0 = 0 := rfl
theorem stepsI_succ (a b : Int) (ha : 0 ≤ a) (hb : 1 ≤ b) : stepsI a b = stepsI b (a % b) + 1 := by
  obtain ⟨x, rfl⟩ := Int.eq_ofNat_of_zero_le ha
  obtain ⟨y, rfl⟩ := Int.eq_ofNat_of_zero_le (show 0 ≤ b by omega)
  have e : ((x : Int) % (y : Int)) = ((x % y : Nat) : Int) := rfl
  unfold stepsI
  rw [e]
  simp only [Int.toNat_natCast]
  rw [show stepsN (y + 1) x y = stepsN y y (x % y) + 1 by rw [stepsN, if_neg (by omega)]]
  rw [stepsN_more y (x % y + 1) y (x % y) (Nat.mod_lt _ (by omega)) (by omega)]
  rfl
theorem stepsI_bd (a b : Int) : 0 ≤ stepsI a b ∧ stepsI a b ≤ b.toNat := by
  have H : ∀ (f a b : Nat), stepsN f a b ≤ b := by
    intro f
    induction f with
    | zero => intro a b; simp [stepsN]
    | succ f ih =>
      intro a b
      rw [stepsN]
      split
      · omega
      · have := ih b (a % b); have := Nat.mod_lt a (show b > 0 by omega); omega
  have := H (b.toNat + 1) a.toNat b.toNat
  unfold stepsI
  omega

end Go.Proofs.Ytmeffbooabionaa
