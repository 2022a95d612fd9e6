/- Sums of words, in plain words: all of them, without what is there twice. -/
import Derived.Test.YtmeffbooabionaaSoM
import Derived.Test.YtmeffbooabionaaCompU
namespace Go.Proofs.Ytmeffbooabionaa

/-- All sums of words, in the order in which they come up. -/
def allX (l : List Nat) : List Nat := l.foldl (fun out g => out ++ out.map (· ^^^ g)) [0]
theorem allX_nil : allX [] = [0] := rfl
theorem allX_append (l : List Nat) (g : Nat) : allX (l ++ [g]) = allX l ++ (allX l).map (· ^^^ g) := by unfold allX; rw [List.foldl_append]; rfl
theorem snoc_ind {P : List Nat → Prop} (h0 : P []) (h1 : ∀ l g, P l → P (l ++ [g])) (l : List Nat) : P l := by
  rw [← l.reverse_reverse]
  induction l.reverse with
  | nil => exact h0
  | cons a t ih => rw [List.reverse_cons]; exact h1 _ _ ih
theorem allX_len (l : List Nat) : (allX l).length = 2 ^ l.length := by
  refine snoc_ind (P := fun l => (allX l).length = 2 ^ l.length) rfl (fun l g ih => ?_) l
  rw [allX_append, List.length_append, List.length_map, ih, List.length_append, List.length_singleton, Nat.pow_succ]; omega
/-- Neighbours that are alike are let go. -/
def cmpN (l : List Nat) : List Nat := Lib.compactUpTo l.toArray l.length
theorem getD_map (l : List Nat) (j : Nat) : ((l.map fun x : Nat => (x : Int)).toArray)[j]! = ((l.toArray)[j]! : Int) := by
  by_cases hj : j < l.length
  · simp [hj]
  · simp [hj]
theorem cmpL_cast (l : List Nat) : cmpL (l.map fun x : Nat => (x : Int)) = (cmpN l).map fun x : Nat => (x : Int) := by
  unfold cmpL cmpN Lib.compactUpTo
  rw [List.length_map, List.map_map]
  have hk : ∀ j, Lib.keeps (l.map fun x : Nat => (x : Int)).toArray j = Lib.keeps l.toArray j := by
    intro j
    unfold Lib.keeps
    rw [getD_map, getD_map]
    by_cases h0 : j = 0
    · simp [h0]
    · by_cases h1 : l.toArray[j]! = l.toArray[j - 1]!
      · simp [h0, h1]
      · have h2 : ((l.toArray[j]! : Nat) : Int) ≠ ((l.toArray[j - 1]! : Nat) : Int) := by omega
        simp only [h0, h1, h2, ne_eq, not_false_eq_true, or_true, decide_true]
  rw [List.filter_congr (fun j _ => hk j)]
  exact List.map_congr_left fun j _ => getD_map l j
theorem cmpN_len (l : List Nat) : (cmpN l).length ≤ l.length := by
  unfold cmpN Lib.compactUpTo
  rw [List.length_map]
  exact Nat.le_trans (List.length_filter_le _ _) (by simp)
theorem get_nat (l : List Nat) {j : Nat} (hj : j < l.length) : l.toArray[j]! = l[j] := by simp [hj]
theorem mem_cmpN (l : List Nat) (x : Nat) : x ∈ cmpN l ↔ x ∈ l := by
  unfold cmpN Lib.compactUpTo
  constructor
  · intro h
    obtain ⟨j, hj, rfl⟩ := List.mem_map.1 h
    have hj2 := List.mem_range.1 (List.mem_filter.1 hj).1
    show l.toArray[j]! ∈ l
    rw [get_nat l hj2]
    exact List.getElem_mem _
  · intro h
    obtain ⟨j, hj⟩ := List.getElem?_of_mem h
    have key : ∀ j : Nat, l[j]? = some x → ∃ i, i < l.length ∧ Lib.keeps l.toArray i = true ∧ l.toArray[i]! = x := by
      intro j
      induction j with
      | zero =>
        intro hj
        obtain ⟨h1, h2⟩ := List.getElem?_eq_some_iff.1 hj
        exact ⟨0, h1, by simp [Lib.keeps], by rw [get_nat l h1]; exact h2⟩
      | succ j ih =>
        intro hj
        obtain ⟨h1, h2⟩ := List.getElem?_eq_some_iff.1 hj
        by_cases he : l.toArray[j + 1]! = l.toArray[j]!
        · apply ih
          rw [get_nat l h1, get_nat l (by omega)] at he
          rw [List.getElem?_eq_getElem (by omega), ← he, h2]
        · exact ⟨j + 1, h1, by unfold Lib.keeps; simp only [Nat.add_sub_cancel]; exact decide_eq_true (.inr he), by rw [get_nat l h1]; exact h2⟩
    obtain ⟨i, h1, h2, h3⟩ := key j hj
    exact List.mem_map.2 ⟨i, List.mem_filter.2 ⟨List.mem_range.2 h1, h2⟩, h3⟩
theorem cmpN_strict {l : List Nat} (h : l.Pairwise (· ≤ ·)) : (cmpN l).Pairwise (· < ·) := by
  unfold cmpN Lib.compactUpTo
  rw [List.pairwise_map]
  have hr : ((List.range l.length).filter (Lib.keeps l.toArray)).Pairwise (fun i j => i < j ∧ j < l.length ∧ Lib.keeps l.toArray j = true) := by
    have h1 : ((List.range l.length).filter (Lib.keeps l.toArray)).Pairwise (· < ·) := List.Pairwise.filter _ (List.pairwise_lt_range)
    rw [List.pairwise_iff_forall_sublist] at h1 ⊢
    intro i j hij
    have hm : j ∈ (List.range l.length).filter (Lib.keeps l.toArray) := hij.subset (by simp)
    exact ⟨h1 hij, List.mem_range.1 (List.mem_filter.1 hm).1, (List.mem_filter.1 hm).2⟩
  refine hr.imp ?_
  rintro i j ⟨h1, h2, h3⟩
  show l.toArray[i]! < l.toArray[j]!
  have h4 : l.toArray[j]! ≠ l.toArray[j - 1]! := by
    unfold Lib.keeps at h3
    have := of_decide_eq_true h3
    rcases this with h | h
    · omega
    · exact h
  rw [get_nat l h2, get_nat l (show j - 1 < l.length by omega)] at h4
  rw [get_nat l h2, get_nat l (show i < l.length by omega)]
  have le1 : l[j - 1]'(by omega) ≤ l[j] := by
    rcases Nat.lt_or_ge (j - 1) j with h5 | h5
    · exact (List.pairwise_iff_getElem.1 h) (j - 1) j (by omega) h2 (by omega)
    · omega
  have le2 : l[i]'(by omega) ≤ l[j - 1]'(by omega) := by
    by_cases he : i = j - 1
    · subst he; exact Nat.le_refl _
    · exact (List.pairwise_iff_getElem.1 h) i (j - 1) (by omega) (by omega) (by omega)
  omega
/-- The words of a code. -/
def wordsL (l : List Nat) : List Nat := cmpN (srtU (allX l))
theorem mem_wordsL (l : List Nat) (x : Nat) : x ∈ wordsL l ↔ x ∈ allX l := by unfold wordsL; rw [mem_cmpN]; exact (srtU_perm _).mem_iff
theorem wordsL_strict (l : List Nat) : (wordsL l).Pairwise (· < ·) := cmpN_strict (srtU_sorted _)
theorem wordsL_len (l : List Nat) : (wordsL l).length ≤ 2 ^ l.length := by unfold wordsL; refine Nat.le_trans (cmpN_len _) ?_; rw [srtU_len, allX_len]; exact Nat.le_refl _
theorem allX_lt {l : List Nat} {n : Nat} (h : ∀ g ∈ l, g < 2 ^ n) : ∀ x ∈ allX l, x < 2 ^ n := by
  revert h
  refine snoc_ind (P := fun l => (∀ g ∈ l, g < 2 ^ n) → ∀ x ∈ allX l, x < 2 ^ n) (fun _ x hx => ?_) (fun l g ih h x hx => ?_) l
  · simp [allX_nil] at hx; subst hx; exact Nat.two_pow_pos _
  · rw [allX_append, List.mem_append] at hx
    have ih' := ih (fun y hy => h y (by simp [hy]))
    rcases hx with hx | hx
    · exact ih' x hx
    · obtain ⟨y, hy, rfl⟩ := List.mem_map.1 hx
      exact Nat.xor_lt_two_pow (ih' y hy) (h g (by simp))
end Go.Proofs.Ytmeffbooabionaa
