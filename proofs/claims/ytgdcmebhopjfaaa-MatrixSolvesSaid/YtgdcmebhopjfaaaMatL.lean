/- Tables as matrices: from lists of lists to functions. -/
import Derived.Test.YtgdcmebhopjfaaaTabB
import Derived.Test.YtgdcmebhopjfaaaMat
import Derived.Test.YtgdcmebhopjfaaaMatrix1
namespace Go.Proofs.Ytgdcmebhopjfaaa
open Go.RowKit

structure TabOk (L : List (List Nat)) (R C : Nat) : Prop where
  len : L.length = R
  r1 : 1 ≤ R
  r12 : R ≤ 12
  c1 : 1 ≤ C
  c24 : C ≤ 24
  row : ∀ r ∈ L, r.length = C
  byte : ∀ r ∈ L, ∀ x ∈ r, x < 256
theorem tabE_zero {L : List (List Nat)} (h : tabE L = 0) (hb : ∀ r ∈ L, ∀ x ∈ r, x < 256) : TabOk L L.length (L.getD 0 []).length := by
  cases L with
  | nil => cases h
  | cons r L =>
    unfold tabE at h
    simp only at h
    split at h
    · cases h
    · split at h
      · cases h
      · split at h
        · cases h
        · rename_i h1 h2 h3
          refine ⟨rfl, by simp, by omega, by simp only [List.getD_cons_zero]; omega, by simp only [List.getD_cons_zero]; omega, fun s hs => ?_, hb⟩
          simp only [List.getD_cons_zero]
          have h4 : (r :: L).any (fun s => decide (s.length ≠ r.length)) = false := by
            cases h5 : (r :: L).any (fun s => decide (s.length ≠ r.length)) with
            | true => exact absurd h5 h3
            | false => rfl
          rw [List.any_eq_false] at h4
          have := h4 s hs
          simpa using this
theorem tabE_le {L : List (List Nat)} (h : tabE L = 0) : (L.getD 0 []).length ≤ 12 := by
  cases L with
  | nil => cases h
  | cons r L =>
    unfold tabE at h
    simp only at h
    split at h
    · cases h
    · split at h
      · cases h
      · simp only [List.getD_cons_zero]; omega
theorem tabE_cases (L : List (List Nat)) : tabE L = 0 ∨ tabE L = 2 ∨ tabE L = 3 := by
  unfold tabE
  split
  · exact .inr (.inl rfl)
  · split
    · exact .inr (.inl rfl)
    · split
      · exact .inr (.inl rfl)
      · split
        · exact .inr (.inr rfl)
        · exact .inl rfl
def matM (L : List (List Nat)) : Mt := fun i j => gf ((L.getD i []).getD j 0)
def ofM (R C : Nat) (M : Mt) : List (List Nat) := (List.range R).map fun i => (List.range C).map fun j => (M i j).val
theorem ofM_congr {R C : Nat} {A B : Mt} (h : ∀ i, i < R → ∀ j, j < C → A i j = B i j) : ofM R C A = ofM R C B :=
  List.map_congr_left fun i hi => List.map_congr_left fun j hj => by rw [h i (List.mem_range.1 hi) j (List.mem_range.1 hj)]
theorem TabOk.get {L : List (List Nat)} {R C : Nat} (h : TabOk L R C) {i : Nat} (hi : i < R) : L[i]? = some ((List.range C).map fun j => (matM L i j).val) := by
  have hl : i < L.length := by rw [h.len]; exact hi
  rw [List.getElem?_eq_getElem hl]
  congr 1
  have hm := List.getElem_mem hl
  have hr := h.row _ hm
  apply List.ext_getElem?
  intro j
  by_cases hj : j < C
  · rw [List.getElem?_map, List.getElem?_range hj, List.getElem?_eq_getElem (by omega)]
    simp only [Option.map_some]
    congr 1
    unfold matM
    rw [List.getD_eq_getElem?_getD, List.getD_eq_getElem?_getD, List.getElem?_eq_getElem hl]
    simp only [Option.getD_some]
    rw [List.getElem?_eq_getElem (by omega)]
    simp only [Option.getD_some]
    rw [gf_val (h.byte _ hm _ (List.getElem_mem _))]
  · rw [List.getElem?_eq_none (by omega), List.getElem?_eq_none (by simp; omega)]
theorem ofM_matM {L : List (List Nat)} {R C : Nat} (h : TabOk L R C) : ofM R C (matM L) = L := by
  apply List.ext_getElem?
  intro i
  by_cases hi : i < R
  · rw [h.get hi]
    unfold ofM
    rw [List.getElem?_map, List.getElem?_range hi]
    rfl
  · rw [List.getElem?_eq_none (by simp [ofM]; omega), List.getElem?_eq_none (by rw [h.len]; omega)]
theorem ofM_ok {R C : Nat} (M : Mt) (h1 : 1 ≤ R) (h2 : R ≤ 12) (h3 : 1 ≤ C) (h4 : C ≤ 24) : TabOk (ofM R C M) R C := by
  refine ⟨by simp [ofM], h1, h2, h3, h4, fun r hr => ?_, fun r hr x hx => ?_⟩
  · obtain ⟨i, _, rfl⟩ := List.mem_map.1 hr; simp
  · obtain ⟨i, _, rfl⟩ := List.mem_map.1 hr
    obtain ⟨j, _, rfl⟩ := List.mem_map.1 hx
    exact GF.lt _
theorem gf_of (x : GF) : gf x.val = x := GF.ext (gf_val x.lt)
theorem matM_ofM {R C : Nat} (M : Mt) {i j : Nat} (hi : i < R) (hj : j < C) : matM (ofM R C M) i j = M i j := by
  unfold matM ofM
  rw [List.getD_eq_getElem?_getD, List.getD_eq_getElem?_getD, List.getElem?_map, List.getElem?_range hi]
  simp only [Option.map_some, Option.getD_some]
  rw [List.getElem?_map, List.getElem?_range hj]
  simp only [Option.map_some, Option.getD_some]
  exact gf_of _
def mulG (A B : Mt) (K : Nat) : Mt := fun i j => sumG (fun t => A i t * B t j) K
theorem zof_byte {w : World} {ao : Option Addr} {n : Nat} {T : List Hd} (k : TabIn w ao n T) : ∀ r ∈ zof T, ∀ x ∈ r, x < 256 := by
  intro r hr x hx
  obtain ⟨h, hh, rfl⟩ := List.mem_map.1 hr
  exact (k.rows h hh).byte x hx
theorem TabIn.ok {w : World} {ao : Option Addr} {n : Nat} {T : List Hd} (k : TabIn w ao n T) (hE : tabE (zof T) = 0) : ∃ C, TabOk (zof T) n C ∧ C = ((zof T).getD 0 []).length := by
  have h := tabE_zero hE (zof_byte k)
  rw [zof_len, k.len] at h
  exact ⟨_, h, rfl⟩
theorem u8s_gv (C : Nat) (f : Nat → GF) : u8s ((List.range C).map fun j => (f j).val) = rowF C (fun j => gv (f j)) := by
  unfold u8s rowF
  rw [List.map_map]
  rfl
/-- Row i of a table that is read. -/
theorem TabIn.row {w : World} {ao : Option Addr} {n C : Nat} {T : List Hd} (k : TabIn w ao n T) (ok : TabOk (zof T) n C) {i : Nat} (hi : i < n) :
    ∃ b o b' o' c', ao = some ⟨b, o, none⟩ ∧ w.cell? ⟨b, o + i, none⟩ = some (.slice (some ⟨b', o', none⟩) C c') ∧ C ≤ c' ∧ c' ≤ 9223372036854775807 ∧ Reads w (some ⟨b', o', none⟩) (rowF C fun j => gv (matM (zof T) i j)) ∧
      T[i]? = some ⟨some ⟨b', o', none⟩, c', (List.range C).map fun j => (matM (zof T) i j).val⟩ := by
  obtain ⟨h, b, o, hT, rfl, hc, hr⟩ := k.get hi
  have hz := ok.get hi
  rw [zof_get hT] at hz
  injection hz with hz
  have hl : h.Z.length = C := by rw [hz]; simp
  obtain ⟨A, c', Z⟩ := h
  simp only at hz hl hc
  have hR := hr.reads
  simp only at hR
  rw [hz, u8s_gv] at hR
  obtain ⟨b', o', hA, _⟩ := hR 0 _ (rowF_get _ (show 0 < C by have := ok.c1; omega))
  subst hA
  rw [hl] at hc
  have h1 := hr.cap
  have h2 := hr.max
  simp only at h1 h2
  refine ⟨b, o, b', o', c', rfl, hc, by omega, h2, hR, ?_⟩
  rw [hT, hz]
/-- A cell of a row that is read. -/
theorem row_cell {w : World} {b o C : Nat} {f : Nat → GF} (h : Reads w (some ⟨b, o, none⟩) (rowF C fun j => gv (f j))) {j : Nat} (hj : j < C) : w.cell? ⟨b, o + j, none⟩ = some (.int .u8 ((f j).val : Int)) := by
  obtain ⟨b2, o2, ha, hc⟩ := h j _ (rowF_get (fun j => gv (f j)) hj)
  cases ha
  exact hc
/-- Where a table lies, in each world that is above its own. -/
theorem TabIn.fix {w : World} {ao : Option Addr} {n C : Nat} {T : List Hd} (k : TabIn w ao n T) (ok : TabOk (zof T) n C) :
    ∃ b o, ao = some ⟨b, o, none⟩ ∧ ∀ i, i < n → ∃ b' o' c', C ≤ c' ∧ c' ≤ 9223372036854775807 ∧ ∀ X, Below w.heap.size w X → X.cell? ⟨b, o + i, none⟩ = some (.slice (some ⟨b', o', none⟩) C c') ∧ ∀ j, j < C → X.cell? ⟨b', o' + j, none⟩ = some (.int .u8 ((matM (zof T) i j).val : Int)) := by
  obtain ⟨b, o, _, _, _, rfl, _⟩ := k.row ok (i := 0) ok.r1
  refine ⟨b, o, rfl, fun i hi => ?_⟩
  obtain ⟨b2, o2, b', o', c', hao, h1, h2, h3, h4, _⟩ := k.row ok hi
  cases hao
  exact ⟨b', o', c', h2, h3, fun X hX => ⟨(hX.cell (World.block_lt_of_cell? _ _ h1)).trans h1, fun j hj => row_cell (h4.below hX) hj⟩⟩
end Go.Proofs.Ytgdcmebhopjfaaa
