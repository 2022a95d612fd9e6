/- wholeref.PhiOf: each divisor's value is what its sum leaves when the smaller divisors' values are taken off. -/
import Derived.Test.YtmeffbooabionaaRows
import Derived.Test.YtmeffbooabionaaDivisors
import Derived.Test.YtmeffbooabionaaIrM33
import Derived.Test.YtmeffbooabionaaFormK
set_option linter.unusedVariables false
set_option linter.unusedSimpArgs false
namespace Go.Proofs.Ytmeffbooabionaa
open Go.RowKit

/-- What the row holds when i values are told, and of the next one k smaller ones are taken off. -/
def stP (f : Nat → Int) (n i : Nat) (j : Nat) : Value := .int .i64 (if j < i then f ((divs n)[j]?.getD 0) else 0)
def stQ (f g : Nat → Int) (n i d k : Nat) (j : Nat) : Value := if j = i then .int .i64 (g d - accV f n d k) else stP f n i j
theorem stQ_end {f g : Nat → Int} {n i d : Nat} (hn : 1 ≤ n) (h : (divs n)[i]? = some d) (hs : sd f d = g d) (j : Nat) : stQ f g n i d i j = stP f n (i + 1) j := by
  unfold stQ
  by_cases hj : j = i
  · subst hj
    rw [if_pos rfl, ← hs, accV_end hn h]
    unfold stP
    rw [if_pos (by omega), h]
    rfl
  · rw [if_neg hj]
    unfold stP
    by_cases h1 : j < i
    · rw [if_pos h1, if_pos (by omega)]
    · rw [if_neg h1, if_neg (by omega)]
theorem stQ_skip {f g : Nat → Int} {n i d k c : Nat} (h : (divs n)[k]? = some c) (hc : ¬ c ∣ d) (j : Nat) : stQ f g n i d k j = stQ f g n i d (k + 1) j := by
  unfold stQ
  rw [accV_succ f h, if_neg hc, Int.add_zero]
theorem stQ_step {f g : Nat → Int} {n i d k c : Nat} (h : (divs n)[k]? = some c) (hc : c ∣ d) {a y : Int} (ha : accV f n d k = a) (hy : f c = y) (j : Nat) : (if j = i then Value.int .i64 (g d - a - y) else stQ f g n i d k j) = stQ f g n i d (k + 1) j := by
  unfold stQ
  rw [accV_succ f h, if_pos hc, ha, hy]
  by_cases hj : j = i
  · rw [if_pos hj, if_pos hj]; congr 1; omega
  · rw [if_neg hj, if_neg hj, if_neg hj]
theorem natInts_get {l : List Nat} {k c : Nat} (h : l[k]? = some c) : (natInts l)[k]? = some (.int .i64 c) := by
  unfold natInts; rw [List.getElem?_map, h]; rfl
theorem natInts_length (l : List Nat) : (natInts l).length = l.length := by simp [natInts]
theorem natInts_ne {l : List Nat} (h : 0 < l.length) : natInts l ≠ [] := fun e => by
  have h2 := natInts_length l
  rw [e] at h2
  simp at h2
  omega
end Go.Proofs.Ytmeffbooabionaa
