/- Contracts of package euclid: each function returns what plain arithmetic says; the world stays but for draws. -/
import Derived.Test.YtmgpohomgblkkaaDoorRows
import Derived.WalkKit
import Derived.WalkSpells
import Derived.WalkLawsBesides
import Derived.Deep.QuietTactic
import Derived.BigQuiet
import Derived.Lib.Hide
import Derived.Handy
import Derived.Test.YtmgpohomgblkkaaDoorBase
import Derived.Test.YtmgpohomgblkkaaDoorEuclidM
namespace Go.Proofs.YtmgpohomgblkkaaDoor
open Go.RowKit

/-- The least common multiple. -/
def lcmI (a b : Int) : Int := if a = 0 ∨ b = 0 then 0 else max (a.tdiv (gI a b) * b) (-(a.tdiv (gI a b) * b))

/-- How often one divides, at numbers from 0 on. -/
def stepsN : Nat → Nat → Nat → Nat
  | 0, _, _ => 0
  | f + 1, a, b => if b = 0 then 0 else stepsN f b (a % b) + 1
theorem stepsN_more (f : Nat) : ∀ g a b : Nat, b < f → b < g → stepsN f a b = stepsN g a b := by
  induction f with
  | zero => intro g a b h; omega
  | succ f ih =>
    intro g a b hf hg
    cases g with
    | zero => omega
    | succ g =>
      simp only [stepsN]
      by_cases hb : b = 0
      · simp [hb]
      · have := Nat.mod_lt a (show b > 0 by omega)
        rw [if_neg hb, if_neg hb, ih g b (a % b) (by omega) (by omega)]
def stepsI (a b : Int) : Int := (stepsN (b.toNat + 1) a.toNat b.toNat : Int)
theorem stepsI_zero (a : Int) : stepsI a 0 = 0 := rfl
theorem stepsI_succ (a b : Int) (ha : 0 ≤ a) (hb : 1 ≤ b) : stepsI a b = stepsI b (a % b) + 1 := by
  obtain ⟨x, rfl⟩ := Int.eq_ofNat_of_zero_le ha
  obtain ⟨y, rfl⟩ := Int.eq_ofNat_of_zero_le (show 0 ≤ b by omega)
  have e : ((x : Int) % (y : Int)) = ((x % y : Nat) : Int) := rfl
  unfold stepsI
  rw [e]
  simp only [Int.toNat_natCast]
  rw [show stepsN (y + 1) x y = stepsN y y (x % y) + 1 by rw [stepsN, if_neg (by omega)]]
  rw [stepsN_more y (x % y + 1) y (x % y) (Nat.mod_lt _ (by omega)) (by omega)]
  rfl
theorem stepsI_bd (a b : Int) : 0 ≤ stepsI a b ∧ stepsI a b ≤ b.toNat := by
  have H : ∀ (f a b : Nat), stepsN f a b ≤ b := by
    intro f
    induction f with
    | zero => intro a b; simp [stepsN]
    | succ f ih =>
      intro a b
      rw [stepsN]
      split
      · omega
      · have := ih b (a % b); have := Nat.mod_lt a (show b > 0 by omega); omega
  have := H (b.toNat + 1) a.toNat b.toNat
  unfold stepsI
  omega

end Go.Proofs.YtmgpohomgblkkaaDoor
