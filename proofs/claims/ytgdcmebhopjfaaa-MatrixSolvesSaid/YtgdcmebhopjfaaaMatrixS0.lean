/- MatrixSolves: what the law's walk needs. (Printed by wip/tools/gen_mats.py.) -/
import Derived.Test.YtgdcmebhopjfaaaMatrix7
import Derived.Test.YtgdcmebhopjfaaaOne
namespace Go.Proofs.Ytgdcmebhopjfaaa
open Go.RowKit

theorem tabE_ofM {R C : Nat} (M : Mt) (h1 : 1 ≤ R) (h2 : R ≤ 12) (h3 : 1 ≤ C) (h4 : C ≤ 12) : tabE (ofM R C M) = 0 := by
  obtain ⟨r, rfl⟩ : ∃ r, R = r + 1 := ⟨R - 1, by omega⟩
  have e : ofM (r + 1) C M = ((List.range C).map fun j => (M 0 j).val) :: ((List.range r).map fun i => (List.range C).map fun j => (M (i + 1) j).val) := by
    unfold ofM
    rw [List.range_succ_eq_map, List.map_cons, List.map_map]
    rfl
  rw [e]
  unfold tabE
  simp only
  rw [if_neg (by simp; omega), if_neg (by simp; omega), if_neg]
  intro h
  rw [List.any_eq_true] at h
  obtain ⟨s, hs, h5⟩ := h
  rw [List.mem_cons] at hs
  rcases hs with rfl | hs
  · simp at h5
  · obtain ⟨i, _, rfl⟩ := List.mem_map.1 hs
    simp at h5
def bbF (Z : List Nat) : Nat → GF := fun i => gf (Z.getD i 0)
theorem bbF_row {w : World} {b : Hd} {n : Nat} (h : RowOk w b) (hl : b.Z.length = n) : b.Z = (List.range n).map fun i => (bbF b.Z i).val := by
  apply List.ext_getElem?
  intro j
  by_cases hj : j < n
  · rw [List.getElem?_map, List.getElem?_range hj, List.getElem?_eq_getElem (by omega)]
    simp only [Option.map_some]
    congr 1
    unfold bbF
    rw [List.getD_eq_getElem?_getD, List.getElem?_eq_getElem (by omega)]
    simp only [Option.getD_some]
    rw [gf_val (h.byte _ (List.getElem_mem _))]
  · rw [List.getElem?_eq_none (by omega), List.getElem?_eq_none (by simp; omega)]
theorem rowF_snoc_wide (A : Mt) (b : Nat → GF) (C i : Nat) : rowF (C + 1) (fun j => gv (wideG A b C i j)) = rowF C (fun j => gv (A i j)) ++ [gv (b i)] := by
  unfold wideG
  rw [rowF_bes]
  rfl
theorem Rag.row' {w w' : World} {base tr tb G n i : Nat} {H : Nat → Hd} (h : Rag w base tr tb G n i H (.slice none 0 0) 0 []) (hi : i < n) (hb : Below w.heap.size w w') : w'.cell? ⟨G, i, none⟩ = some (.slice none 0 0) ∧ w'.frozen? ⟨G, i, none⟩ = false :=
  ⟨(h.below hb).cell hi, (h.below hb).frozen⟩
end Go.Proofs.Ytgdcmebhopjfaaa
