/- Contracts of package euclid: each function returns what plain arithmetic says; the world stays but for draws. -/
import Derived.Test.YtioecklnijhjgaaRows
import Derived.WalkKit
import Derived.WalkSpells
import Derived.WalkLawsBesides
import Derived.Deep.QuietTactic
import Derived.BigQuiet
import Derived.Lib.Hide
import Derived.Handy
import Derived.Test.YtioecklnijhjgaaHlM0
import Derived.Test.YtioecklnijhjgaaEuclidM
namespace Go.Proofs.Ytioecklnijhjgaa
open Go.RowKit

set_option maxHeartbeats 400000 in
theorem euclid_gcd (a b : Int) (w : World) (ha : -1000000000 ≤ a) (ha' : a ≤ 1000000000) (hb : -1000000000 ≤ b) (hb' : b ≤ 1000000000) :
    Calls Try.prog 53 #[.int .i64 a, .int .i64 b] w fun e w' => e = .returned (.int .i64 (gI a b)) ∧ ∃ n, w' = w.drewN n := by
  go_enter Try.func53, Try.ntmps53
  go_wp2
  go_loopw [0, 1] (fun x y wr => ∃ c d : Int, x = .int .i64 c ∧ y = .int .i64 d ∧ Hid (Int.gcd c d = Int.gcd a b) ∧ -1000000000 ≤ c ∧ c ≤ 1000000000 ∧ -1000000000 ≤ d ∧ d ≤ 1000000000 ∧ ∃ n, wr = w.drewN n) (fun _ y _ => (intOf y).natAbs)
  case atStart => exact ⟨a, b, rfl, rfl, rfl, ha, ha', hb, hb', 0, rfl⟩
  case round =>
    obtain ⟨c, d, rfl, rfl, hg, hc, hc', hd, hd', n, rfl⟩ := hrel
    go_wp2
    · have h : (d != 0) = true := by assumption
      have hd0 : d ≠ 0 := by simpa using h
      go_quiet (fail)
      go_wp2
      go_roundw
      case rel => exact ⟨d, c.tmod d, rfl, rfl, by have := hg; unfold Hid at *; rw [gcd_tmod]; exact this, hd, hd', (tmod_in c d _ ⟨hc, hc'⟩).1, (tmod_in c d _ ⟨hc, hc'⟩).2, dr2 _ _ _⟩
      case measure => exact tmod_lt c d hd0
    all_goals
      have h : (d != 0) = false := by assumption
      have hd0 : d = 0 := by simpa using h
      have hgo := hg.out
      go_ret
      refine ⟨?_, _, rfl⟩
      unfold gI
      rw [← hgo, hd0]
      congr 2
      simp [Int.gcd]
      omega

set_option maxHeartbeats 400000 in
theorem euclid_in_yes (a : Int) (w : World) (h1 : -1000000000 ≤ a) (h2 : a ≤ 1000000000) :
    Calls Try.prog 52 #[.int .i64 a] w fun e w' => e = .returned (.bool true) ∧ w = w' := by
  have h3 : decide (a ≤ 1000000000) = true := by simp; omega
  go_enter Try.func52, Try.ntmps52
  go_wp2
  go_ret
  exact ⟨by simp [h2], rfl⟩
set_option maxHeartbeats 400000 in
theorem euclid_in_no (a : Int) (w : World) (h : a < -1000000000 ∨ 1000000000 < a) :
    Calls Try.prog 52 #[.int .i64 a] w fun e w' => e = .returned (.bool false) ∧ w = w' := by
  rcases h with h | h
  all_goals
    go_enter Try.func52, Try.ntmps52
    go_wp2
    go_ret
    exact ⟨by first | rfl | (simp; omega), rfl⟩

set_option maxHeartbeats 400000 in
theorem euclid_Gcd (a b : Int) (w : World) (ha : -1000000000 ≤ a) (ha' : a ≤ 1000000000) (hb : -1000000000 ≤ b) (hb' : b ≤ 1000000000) :
    Calls Try.prog 32 #[.int .i64 a, .int .i64 b] w fun e w' => e = .returned (.tuple #[.int .i64 (gI a b), .int .i64 0]) ∧ ∃ n, w' = w.drewN n := by
  go_enter Try.func32, Try.ntmps32
  go_wp2_with (first | (go_at_call 52; refine (euclid_in_yes _ _ (by omega) (by omega)).mono ?_; rintro e w' ⟨rfl, rfl⟩) | (go_at_call 53; refine (euclid_gcd a b _ ha ha' hb hb').mono ?_; rintro e w' ⟨rfl, n, rfl⟩))
  go_ret2
  exact ⟨rfl, _, rfl⟩

set_option maxHeartbeats 400000 in
theorem euclid_Gcd_bad (a b : Int) (w : World) (h : (a < -1000000000 ∨ 1000000000 < a) ∨ (b < -1000000000 ∨ 1000000000 < b)) :
    Calls Try.prog 32 #[.int .i64 a, .int .i64 b] w fun e w' => e = .returned (.tuple #[.int .i64 0, .int .i64 1]) ∧ ∃ n, w' = w.drewN n := by
  by_cases ha : a < -1000000000 ∨ 1000000000 < a
  · go_enter Try.func32, Try.ntmps32
    go_wp2_with (go_at_call 52; refine (euclid_in_no _ _ ha).mono ?_; rintro e w' ⟨rfl, rfl⟩)
    go_ret2; exact ⟨rfl, 0, rfl⟩
  · have hb : b < -1000000000 ∨ 1000000000 < b := by omega
    go_enter Try.func32, Try.ntmps32
    go_wp2_with fail
    refine (euclid_in_yes _ _ (by omega) (by omega)).mono ?_; rintro e w' ⟨rfl, rfl⟩
    go_wp2_with fail
    refine (euclid_in_no _ _ hb).mono ?_; rintro e w' ⟨rfl, rfl⟩
    go_wp2_with fail
    go_ret2; exact ⟨rfl, 0, rfl⟩

/-- The least common multiple. -/
def lcmI (a b : Int) : Int := if a = 0 ∨ b = 0 then 0 else max (a.tdiv (gI a b) * b) (-(a.tdiv (gI a b) * b))

/-- How often one divides, at numbers from 0 on. -/
def stepsN : Nat → Nat → Nat → Nat
  | 0, _, _ => 0
  | f + 1, a, b => if b = 0 then 0 else stepsN f b (a % b) + 1
theorem stepsN_more (f : Nat) : ∀ g a b : Nat, b < f → b < g → stepsN f a b = stepsN g a b := by
  induction f with
  | zero => intro g a b h; omega
  | succ f ih =>
    intro g a b hf hg
    cases g with
    | zero => omega
    | succ g =>
      simp only [stepsN]
      by_cases hb : b = 0
      · simp [hb]
      · have := Nat.mod_lt a (show b > 0 by omega)
        rw [if_neg hb, if_neg hb, ih g b (a % b) (by omega) (by omega)]
def stepsI (a b : Int) : Int := (stepsN (b.toNat + 1) a.toNat b.toNat : Int)
theorem stepsI_zero (a : Int) : stepsI a 0 = 0 := rfl
theorem stepsI_succ (a b : Int) (ha : 0 ≤ a) (hb : 1 ≤ b) : stepsI a b = stepsI b (a % b) + 1 := by
  obtain ⟨x, rfl⟩ := Int.eq_ofNat_of_zero_le ha
  obtain ⟨y, rfl⟩ := Int.eq_ofNat_of_zero_le (show 0 ≤ b by omega)
  have e : ((x : Int) % (y : Int)) = ((x % y : Nat) : Int) := rfl
  unfold stepsI
  rw [e]
  simp only [Int.toNat_natCast]
  rw [show stepsN (y + 1) x y = stepsN y y (x % y) + 1 by rw [stepsN, if_neg (by omega)]]
  rw [stepsN_more y (x % y + 1) y (x % y) (Nat.mod_lt _ (by omega)) (by omega)]
  rfl
theorem stepsI_bd (a b : Int) : 0 ≤ stepsI a b ∧ stepsI a b ≤ b.toNat := by
  have H : ∀ (f a b : Nat), stepsN f a b ≤ b := by
    intro f
    induction f with
    | zero => intro a b; simp [stepsN]
    | succ f ih =>
      intro a b
      rw [stepsN]
      split
      · omega
      · have := ih b (a % b); have := Nat.mod_lt a (show b > 0 by omega); omega
  have := H (b.toNat + 1) a.toNat b.toNat
  unfold stepsI
  omega

end Go.Proofs.Ytioecklnijhjgaa
