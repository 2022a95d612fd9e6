/- poly.Product. -/
import Derived.Test.YtmeffbooabionaaPoly2
set_option linter.unusedVariables false
set_option linter.unusedSimpArgs false
namespace Go.Proofs.Ytmeffbooabionaa
open Go.RowKit

def PolPost (base : Nat) (p : Int) (c : Nat → Int) (w : World) (e : Ending) (w' : World) : Prop := ∃ h, IsPol p c h ∧ ListPost base h w e w'
theorem sh_nil (i k : Nat) : sh [] i k = 0 := by
  unfold sh
  split
  · exact co_nil _
  · rfl
theorem conv_nil_l (g : List Int) (k : Nat) : conv [] g k = 0 := rfl
theorem conv_nil_r (f : List Int) (k : Nat) : conv f [] k = 0 := by
  have h : ∀ i, cvn f [] i k = 0 := by
    intro i
    induction i with
    | zero => rfl
    | succ i ih => unfold cvn; rw [ih, sh_nil, Int.mul_zero]; rfl
  exact h _
theorem isPol_nil {p : Int} {c : Nat → Int} (h : ∀ k, c k = 0) : IsPol p c [] := ⟨trm_nil, fun k => by rw [co_nil, h, Int.zero_emod]⟩
/-- The out row while f's place i is taken and g's places below j. -/
def prodS (p : Int) (f g : List Int) (i j k : Nat) : Int := (cvn f g i k + co f i * (if k < i + j then sh g i k else 0)) % p
theorem prodS_zero (p : Int) (f g : List Int) (i k : Nat) : prodS p f g i 0 k = cvn f g i k % p := by
  unfold prodS
  by_cases h : k < i
  · rw [if_pos (by omega), sh_lt g h, Int.mul_zero, Int.add_zero]
  · rw [if_neg (by omega), Int.mul_zero, Int.add_zero]
theorem prodS_full (p : Int) (f g : List Int) (i k : Nat) : prodS p f g i g.length k = cvn f g (i + 1) k % p := by
  unfold prodS
  show _ = (cvn f g i k + co f i * sh g i k) % p
  by_cases h : k < i + g.length
  · rw [if_pos h]
  · rw [if_neg h, sh_ge g (by omega)]
theorem prodS_step (p : Int) (f g : List Int) (i j k : Nat) : prodS p f g i (j + 1) k = if k = i + j then (prodS p f g i j k + co f i * co g j) % p else prodS p f g i j k := by
  unfold prodS
  by_cases h : k = i + j
  · subst h
    rw [if_pos rfl, if_pos (by omega), if_neg (by omega), sh_add, Int.mul_zero, Int.add_zero, Int.emod_add_emod]
  · rw [if_neg h]
    by_cases h2 : k < i + j
    · rw [if_pos h2, if_pos (by omega)]
    · rw [if_neg h2, if_neg (by omega)]
theorem pol_bd {p a : Int} (hp : 1 < p) (hp2 : p ≤ 997) (x : Int) (ha : a = x % p) : 0 ≤ a ∧ a ≤ 996 := by
  subst ha
  have h1 := Int.emod_nonneg x (show p ≠ 0 by omega)
  have h2 := Int.emod_lt_of_pos x (show 0 < p by omega)
  omega
theorem mul_bd {a b M : Int} (ha : 0 ≤ a) (ha2 : a ≤ M) (hb : 0 ≤ b) (hb2 : b ≤ M) : 0 ≤ a * b ∧ a * b ≤ M * M := ⟨Int.mul_nonneg ha hb, Int.mul_le_mul ha2 hb2 hb (by omega)⟩
end Go.Proofs.Ytmeffbooabionaa
