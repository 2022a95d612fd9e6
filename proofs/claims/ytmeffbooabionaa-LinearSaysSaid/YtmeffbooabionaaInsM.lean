/- Sorting by insertion, in plain words: a row is a function of its places. -/
import Derived.Test.YtmeffbooabionaaRow
namespace Go.Proofs.Ytmeffbooabionaa

/-- The first n places as a list. -/
def rowN (n : Nat) (f : Nat → Nat) : List Nat := (List.range n).map f
theorem rowN_len (n : Nat) (f : Nat → Nat) : (rowN n f).length = n := by simp [rowN]
theorem rowN_get {n : Nat} (f : Nat → Nat) {j : Nat} (h : j < n) : (rowN n f)[j]? = some (f j) := by simp [rowN, h]
theorem rowN_congr {n : Nat} {f g : Nat → Nat} (h : ∀ j, j < n → f j = g j) : rowN n f = rowN n g := List.map_congr_left fun j hj => h j (List.mem_range.1 hj)
/-- Place j + 1 and the one ahead of it change. -/
def swA (f : Nat → Nat) (j : Nat) : Nat → Nat := fun i => if i = j then f (j + 1) else if i = j + 1 then f j else f i
theorem swA_perm {n j : Nat} (f : Nat → Nat) (h : j + 1 < n) : (rowN n (swA f j)).Perm (rowN n f) := by
  obtain ⟨b, rfl⟩ : ∃ b, n = j + 2 + b := ⟨n - (j + 2), by omega⟩
  have split : ∀ g : Nat → Nat, rowN (j + 2 + b) g = (List.range j).map g ++ ([g j, g (j + 1)] ++ (List.range b).map (fun x => g (j + 2 + x))) := by
    intro g
    unfold rowN
    rw [List.range_add, List.map_append, List.range_succ, List.range_succ]
    simp [List.append_assoc, Function.comp_def]
  rw [split, split]
  have h1 : (List.range j).map (swA f j) = (List.range j).map f := List.map_congr_left fun i hi => by
    have := List.mem_range.1 hi
    unfold swA
    rw [if_neg (by omega), if_neg (by omega)]
  have h2 : (List.range b).map (fun x => swA f j (j + 2 + x)) = (List.range b).map (fun x => f (j + 2 + x)) := List.map_congr_left fun i _ => by
    unfold swA
    rw [if_neg (by omega), if_neg (by omega)]
  have h3 : swA f j j = f (j + 1) := by unfold swA; rw [if_pos rfl]
  have h4 : swA f j (j + 1) = f j := by unfold swA; rw [if_neg (by omega), if_pos rfl]
  rw [h1, h2, h3, h4]
  exact List.Perm.append_left _ (List.Perm.append_right _ (List.Perm.swap _ _ _))
/-- The first i + 1 places are in order, but for place j, which is looked at against those behind it alone. -/
def InsO (f : Nat → Nat) (i j : Nat) : Prop := ∀ p q, p < q → q ≤ i → q ≠ j → f p ≤ f q
def SrtN (f : Nat → Nat) (n : Nat) : Prop := ∀ p q, p < q → q < n → f p ≤ f q
theorem SrtN.ins {f : Nat → Nat} {i : Nat} (h : SrtN f i) : InsO f i i := fun p q h1 h2 h3 => h p q h1 (by omega)
theorem InsO.done0 {f : Nat → Nat} {i : Nat} (h : InsO f i 0) : SrtN f (i + 1) := fun p q h1 h2 => h p q h1 (by omega) (by omega)
theorem InsO.done {f : Nat → Nat} {i j : Nat} (h : InsO f i (j + 1)) (hj : f j ≤ f (j + 1)) : SrtN f (i + 1) := by
  intro p q h1 h2
  by_cases hq : q = j + 1
  · subst hq
    by_cases hp : p = j
    · subst hp; exact hj
    · exact Nat.le_trans (h p j (by omega) (by omega) (by omega)) hj
  · exact h p q h1 (by omega) hq
theorem InsO.step {f : Nat → Nat} {i j : Nat} (h : InsO f i (j + 1)) (hi : j + 1 ≤ i) (hj : f (j + 1) < f j) : InsO (swA f j) i j := by
  intro p q h1 h2 h3
  unfold swA
  by_cases hq : q = j + 1
  · subst hq
    rw [if_neg (show ¬ j + 1 = j by omega), if_pos rfl]
    by_cases hp : p = j
    · rw [if_pos hp]; omega
    · rw [if_neg hp, if_neg (by omega)]; exact h p j (by omega) (by omega) (by omega)
  · rw [if_neg h3, if_neg hq]
    by_cases hp : p = j
    · rw [if_pos hp]; exact h (j + 1) q (by omega) h2 hq
    · rw [if_neg hp]
      by_cases hp2 : p = j + 1
      · rw [if_pos hp2]; exact h j q (by omega) h2 hq
      · rw [if_neg hp2]; exact h p q h1 h2 hq
theorem swA_pos (f : Nat → Nat) (j : Nat) : swA f j = fun i => if i = j then f (j + 1) else if i = j + 1 then f j else f i := rfl
end Go.Proofs.Ytmeffbooabionaa
