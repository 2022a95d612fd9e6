/- How many monic irreducible polynomials there are: Gauss's number, in plain words. -/
import Derived.Test.YtmeffbooabionaaIrM23
import Derived.Test.YtmeffbooabionaaPrimeM
set_option linter.unusedVariables false
set_option linter.unusedSimpArgs false
namespace Go.Proofs.Ytmeffbooabionaa

/-- Moebius's function up to nineteen. -/
def muT (d : Nat) : Int := [0, 1, -1, -1, 0, -1, 1, -1, 0, 0, 1, -1, 0, -1, 1, 1, 0, -1, 0, -1].getD d 0
theorem muT_bd (d : Nat) : -1 ≤ muT d ∧ muT d ≤ 1 := by
  unfold muT
  by_cases h : d < 20
  · have : ∀ d : Fin 20, -1 ≤ [0, 1, -1, -1, 0, -1, 1, -1, 0, 0, 1, -1, 0, -1, 1, 1, 0, -1, 0, -1].getD d.val (0 : Int) ∧ [0, 1, -1, -1, 0, -1, 1, -1, 0, 0, 1, -1, 0, -1, 1, 1, 0, -1, 0, -1].getD d.val (0 : Int) ≤ 1 := by decide
    exact this ⟨d, h⟩
  · rw [List.getD_eq_getElem?_getD, List.getElem?_eq_none (by simp; omega)]
    decide
def sdT (n : Nat) : Int := (divs n).foldl (fun s d => s + muT d) 0
theorem sdT_all : ∀ n : Fin 20, 1 ≤ n.val → sdT n.val = if n.val = 1 then 1 else 0 := by decide +kernel
theorem divsT_last : ∀ n : Fin 20, 1 ≤ n.val → (divs n.val).dropLast ++ [n.val] = divs n.val := by decide +kernel
theorem divs_drop : ∀ n : Fin 20, ∀ d ∈ (divs n.val).dropLast, d < n.val ∧ 1 ≤ d := by decide +kernel
theorem foldl_sum (g : Nat → Int) : ∀ (l : List Nat) (s : Int), l.foldl (fun s d => s + g d) s = s + sumL g l := by
  intro l
  induction l with
  | nil => intro s; simp [sumL]
  | cons a l ih => intro s; rw [List.foldl_cons, ih, sumL_cons]; omega
theorem mu_eq : ∀ n, 1 ≤ n → n < 20 → mu n = muT n := by
  intro n
  induction n using Nat.strongRecOn with
  | _ n ih =>
    intro h1 h2
    have e1 := sd_mu h1
    have e2 := sdT_all ⟨n, h2⟩ h1
    have hl := divsT_last ⟨n, h2⟩ h1
    have hd := divs_drop ⟨n, h2⟩
    simp only [] at e2 hl hd
    unfold sdT at e2
    rw [foldl_sum, Int.zero_add] at e2
    unfold sd at e1
    rw [← hl, sumL_append] at e1 e2
    have e3 : sumL mu (divs n).dropLast = sumL muT (divs n).dropLast := sumL_congr fun d hdm => ih d (hd d hdm).1 (hd d hdm).2 (by have := (hd d hdm).1; omega)
    rw [e3] at e1
    have e4 : ∀ g : Nat → Int, sumL g [n] = g n := by intro g; simp [sumL]
    rw [e4] at e1 e2
    omega
/-- The first j terms of Gauss's sum. -/
def cP (p n : Nat) (l : List Nat) : Int := l.foldl (fun s d => s + muT d * ((p ^ (n / d) : Nat) : Int)) 0
theorem cP_snoc (p n : Nat) (l : List Nat) (d : Nat) : cP p n (l ++ [d]) = cP p n l + muT d * ((p ^ (n / d) : Nat) : Int) := by unfold cP; rw [List.foldl_append]; rfl
/-- Gauss's number. -/
def amN (p n : Nat) : Nat := (cP p n (divs n)).toNat / n
/-- What is left of p to the d behind j of the divisors. -/
def xM (p n d : Nat) (l : List Nat) : Int := l.foldl (fun x c => if d % c = 0 then x - ((c * amN p c : Nat) : Int) else x) ((p ^ d : Nat) : Int)
theorem xM_snoc (p n d : Nat) (l : List Nat) (c : Nat) : xM p n d (l ++ [c]) = if d % c = 0 then xM p n d l - ((c * amN p c : Nat) : Int) else xM p n d l := by unfold xM; rw [List.foldl_append]; rfl
def okM (p n : Nat) : Bool := !(decide (2 ≤ p) && decide (p ^ n ≤ 1000000)) || (decide (cP p n (divs n) = ((n * amN p n : Nat) : Int)) &&
  (List.range (divs n).length).all fun i => decide (xM p n ((divs n).getD i 0) ((divs n).take i) = (((divs n).getD i 0 * amN p ((divs n).getD i 0) : Nat) : Int)) && decide (amN p ((divs n).getD i 0) ≤ 1000000) && decide ((divs n).getD i 0 ≤ 19 ∧ 1 ≤ (divs n).getD i 0))
theorem okM_all : ∀ n : Fin 20, 1 ≤ n.val → ∀ p : Fin 998, okM p.val n.val = true := by decide +kernel
end Go.Proofs.Ytmeffbooabionaa
