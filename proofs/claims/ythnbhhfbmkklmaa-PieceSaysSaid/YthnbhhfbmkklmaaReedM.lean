/- Rows through points over the field of 256 elements: which of the points are taken does not matter, where all fit. -/
import Derived.Test.YthnbhhfbmkklmaaInterp
namespace Go.Proofs.Ythnbhhfbmkklmaa

/-- Points: places below 256, no two the same. -/
def PtsG (L : List (Nat × Nat)) : Prop := (∀ a ∈ L, a.1 < 256 ∧ a.2 < 256) ∧ (L.map Prod.fst).Nodup
def ptX (L : List (Nat × Nat)) (j : Nat) : GF := gf (L.getD j (0, 0)).1
def ptY (L : List (Nat × Nat)) (j : Nat) : GF := gf (L.getD j (0, 0)).2
/-- The row's value through some points. -/
def rowV (L : List (Nat × Nat)) (x : GF) : GF := lag (ptX L) (ptY L) L.length x
theorem ptX_ne {L : List (Nat × Nat)} (h : PtsG L) : ∀ i j, i < L.length → j < L.length → i ≠ j → ptX L i ≠ ptX L j := by
  intro i j hi hj hij he
  unfold ptX at he
  rw [List.getD_eq_getElem?_getD, List.getD_eq_getElem?_getD, List.getElem?_eq_getElem hi, List.getElem?_eq_getElem hj] at he
  simp only [Option.getD_some] at he
  have h1 := gf_inj (h.1 _ (List.getElem_mem hi)).1 (h.1 _ (List.getElem_mem hj)).1 he
  have h2 := h.2
  rw [List.nodup_iff_pairwise_ne, List.pairwise_map, List.pairwise_iff_getElem] at h2
  rcases Nat.lt_or_ge i j with h3 | h3
  · exact h2 i j hi hj h3 h1
  · exact h2 j i hj hi (by omega) h1.symm
theorem rowV_poly (L : List (Nat × Nat)) : PolyF L.length (rowV L) := lag_poly gfld _ _ _
theorem rowV_at {L : List (Nat × Nat)} (h : PtsG L) {a : Nat × Nat} (ha : a ∈ L) : rowV L (gf a.1) = gf a.2 := by
  obtain ⟨j, hj, he⟩ := List.mem_iff_getElem.1 ha
  have h1 := lag_at gfld (ptX L) (ptY L) hj (ptX_ne h)
  unfold ptX ptY at h1
  rw [List.getD_eq_getElem?_getD, List.getElem?_eq_getElem hj] at h1
  simp only [Option.getD_some] at h1
  rw [he] at h1
  exact h1
/-- A polynomial of so many numbers that fits some points is their row. -/
theorem rowV_uniq {L : List (Nat × Nat)} (h : PtsG L) {f : GF → GF} (hf : PolyF L.length f) (hL : ∀ a ∈ L, f (gf a.1) = gf a.2) (x : GF) : rowV L x = f x := by
  refine lag_uniq gfld hf (ptX L) (ptY L) (ptX_ne h) (fun j hj => ?_) x
  unfold ptX ptY
  rw [List.getD_eq_getElem?_getD, List.getElem?_eq_getElem hj]
  simp only [Option.getD_some]
  exact hL _ (List.getElem_mem hj)
def fits (L P : List (Nat × Nat)) : Prop := ∀ a ∈ P, rowV L (gf a.1) = gf a.2
theorem fits_swap {L M P : List (Nat × Nat)} (hM : PtsG M) (hl : M.length = L.length) (hMP : ∀ a ∈ M, a ∈ P) (h : fits L P) : (∀ x, rowV M x = rowV L x) ∧ fits M P := by
  have h1 : ∀ x, rowV M x = rowV L x := rowV_uniq hM (by rw [hl]; exact rowV_poly L) fun a ha => h a (hMP a ha)
  exact ⟨h1, fun a ha => by rw [h1]; exact h a ha⟩
end Go.Proofs.Ythnbhhfbmkklmaa
