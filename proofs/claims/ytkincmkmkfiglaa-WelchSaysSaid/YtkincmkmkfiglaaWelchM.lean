/- The nearest row, of all sets of k places: plain. -/
import Derived.Test.YtkincmkmkfiglaaMendM
import Derived.Test.YtkincmkmkfiglaaQuorumM
namespace Go.Proofs.Ytkincmkmkfiglaa

/-- Is place i in the set s? -/
def inS (s i : Nat) : Bool := decide (s / 2 ^ i % 2 = 1)
theorem inS_true {s i : Nat} (h : s / 2 ^ i % 2 = 1) : inS s i = true := decide_eq_true h
theorem inS_false {s i : Nat} (h : s / 2 ^ i % 2 = 0) : inS s i = false := decide_eq_false (by omega)
theorem pl_ones (s : Nat) : ∀ n, (pl (inS s) n).length = onesF s n := by
  intro n
  induction n with
  | zero => rfl
  | succ n ih =>
    rw [pl_succ, onesF]
    rcases Nat.mod_two_eq_zero_or_one (s / 2 ^ n) with h | h
    · rw [if_neg (by rw [inS_false h]; decide), h, ih, Nat.add_zero]
    · rw [if_pos (inS_true h), h, List.length_append, ih]; rfl
theorem onesF_top {s n : Nat} (h : s < 2 ^ n) : ∀ d, onesF s (n + d) = onesF s n := by
  intro d
  induction d with
  | zero => rfl
  | succ d ih =>
    show onesF s (n + d) + s / 2 ^ (n + d) % 2 = _
    have h2 : s < 2 ^ (n + d) := Nat.lt_of_lt_of_le h (Nat.pow_le_pow_right (by omega) (by omega))
    rw [Nat.div_eq_of_lt h2, ih]; omega
theorem pl_ones16 {s n : Nat} (hn : n ≤ 16) (h : s < 2 ^ n) : (pl (inS s) n).length = ones16 s := by
  rw [pl_ones]; unfold ones16
  rw [show 16 = n + (16 - n) by omega, onesF_top h]
/-- How many of i places differ. -/
def diffs (f B : Nat → GF) : Nat → Nat
  | 0 => 0
  | i + 1 => diffs f B i + if (f i).val = (B i).val then 0 else 1
theorem diffs_le (f B : Nat → GF) (i : Nat) : diffs f B i ≤ i := by
  induction i with
  | zero => exact Nat.le_refl _
  | succ i ih => simp only [diffs]; split <;> omega
/-- The row through the places of a set. -/
def setRow (B : Nat → GF) (n k s i : Nat) : GF := rowP B (pl (inS s) n) k (gf i)
def setDiff (B : Nat → GF) (n k s : Nat) : Nat := diffs (setRow B n k s) B n
def near (B : Nat → GF) (n k s : Nat) : Prop := ones16 s = k ∧ 2 * setDiff B n k s + k ≤ n
/-- What is answered: the first set of places whose row is near. -/
def Found (B : Nat → GF) (n k s : Nat) : Prop := s < 2 ^ n ∧ near B n k s ∧ ∀ t, t < s → ¬ near B n k t
def NotFound (B : Nat → GF) (n k : Nat) : Prop := ∀ t, t < 2 ^ n → ¬ near B n k t
theorem Found.uniq {B : Nat → GF} {n k s t : Nat} (h : Found B n k s) (g : Found B n k t) : s = t := by
  rcases Nat.lt_trichotomy s t with h1 | h1 | h1
  · exact absurd h.2.1 (g.2.2 s h1)
  · exact h1
  · exact absurd g.2.1 (h.2.2 t h1)
theorem Found.not {B : Nat → GF} {n k s : Nat} (h : Found B n k s) (g : NotFound B n k) : False := g s h.1 h.2.1
theorem set_ne {n s : Nat} (hn : n ≤ 256) : ∀ i j, i < (pl (inS s) n).length → j < (pl (inS s) n).length → i ≠ j → atP (pl (inS s) n) i ≠ atP (pl (inS s) n) j :=
  atP_ne (pl_nodup _ _) (fun a ha => by have := (mem_pl.1 ha).1; omega)
end Go.Proofs.Ytkincmkmkfiglaa
