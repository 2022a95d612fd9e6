/- Tables as matrices: from lists of lists to functions. -/
import Derived.Test.YtgdcmebhopjfaaaTabB
import Derived.Test.YtgdcmebhopjfaaaMat
import Derived.Test.YtgdcmebhopjfaaaMatrix1
import Derived.Test.YtgdcmebhopjfaaaInterp
namespace Go.Proofs.Ytgdcmebhopjfaaa
open Go.RowKit

structure TabOk (L : List (List Nat)) (R C : Nat) : Prop where
  len : L.length = R
  r1 : 1 ≤ R
  r12 : R ≤ 12
  c1 : 1 ≤ C
  c24 : C ≤ 24
  row : ∀ r ∈ L, r.length = C
  byte : ∀ r ∈ L, ∀ x ∈ r, x < 256
theorem tabE_zero {L : List (List Nat)} (h : tabE L = 0) (hb : ∀ r ∈ L, ∀ x ∈ r, x < 256) : TabOk L L.length (L.getD 0 []).length := by
  cases L with
  | nil => cases h
  | cons r L =>
    unfold tabE at h
    simp only at h
    split at h
    · cases h
    · split at h
      · cases h
      · split at h
        · cases h
        · rename_i h1 h2 h3
          refine ⟨rfl, by simp, by omega, by simp only [List.getD_cons_zero]; omega, by simp only [List.getD_cons_zero]; omega, fun s hs => ?_, hb⟩
          simp only [List.getD_cons_zero]
          have h4 : (r :: L).any (fun s => decide (s.length ≠ r.length)) = false := by
            cases h5 : (r :: L).any (fun s => decide (s.length ≠ r.length)) with
            | true => exact absurd h5 h3
            | false => rfl
          rw [List.any_eq_false] at h4
          have := h4 s hs
          simpa using this
theorem tabE_le {L : List (List Nat)} (h : tabE L = 0) : (L.getD 0 []).length ≤ 12 := by
  cases L with
  | nil => cases h
  | cons r L =>
    unfold tabE at h
    simp only at h
    split at h
    · cases h
    · split at h
      · cases h
      · simp only [List.getD_cons_zero]; omega
theorem tabE_cases (L : List (List Nat)) : tabE L = 0 ∨ tabE L = 2 ∨ tabE L = 3 := by
  unfold tabE
  split
  · exact .inr (.inl rfl)
  · split
    · exact .inr (.inl rfl)
    · split
      · exact .inr (.inl rfl)
      · split
        · exact .inr (.inr rfl)
        · exact .inl rfl
def matM (L : List (List Nat)) : Mt := fun i j => gf ((L.getD i []).getD j 0)
def ofM (R C : Nat) (M : Mt) : List (List Nat) := (List.range R).map fun i => (List.range C).map fun j => (M i j).val
theorem ofM_congr {R C : Nat} {A B : Mt} (h : ∀ i, i < R → ∀ j, j < C → A i j = B i j) : ofM R C A = ofM R C B :=
  List.map_congr_left fun i hi => List.map_congr_left fun j hj => by rw [h i (List.mem_range.1 hi) j (List.mem_range.1 hj)]
theorem TabOk.get {L : List (List Nat)} {R C : Nat} (h : TabOk L R C) {i : Nat} (hi : i < R) : L[i]? = some ((List.range C).map fun j => (matM L i j).val) := by
  have hl : i < L.length := by rw [h.len]; exact hi
  rw [List.getElem?_eq_getElem hl]
  congr 1
  have hm := List.getElem_mem hl
  have hr := h.row _ hm
  apply List.ext_getElem?
  intro j
  by_cases hj : j < C
  · rw [List.getElem?_map, List.getElem?_range hj, List.getElem?_eq_getElem (by omega)]
    simp only [Option.map_some]
    congr 1
    unfold matM
    rw [List.getD_eq_getElem?_getD, List.getD_eq_getElem?_getD, List.getElem?_eq_getElem hl]
    simp only [Option.getD_some]
    rw [List.getElem?_eq_getElem (by omega)]
    simp only [Option.getD_some]
    rw [gf_val (h.byte _ hm _ (List.getElem_mem _))]
  · rw [List.getElem?_eq_none (by omega), List.getElem?_eq_none (by simp; omega)]
theorem ofM_matM {L : List (List Nat)} {R C : Nat} (h : TabOk L R C) : ofM R C (matM L) = L := by
  apply List.ext_getElem?
  intro i
  by_cases hi : i < R
  · rw [h.get hi]
    unfold ofM
    rw [List.getElem?_map, List.getElem?_range hi]
    rfl
  · rw [List.getElem?_eq_none (by simp [ofM]; omega), List.getElem?_eq_none (by rw [h.len]; omega)]
theorem ofM_ok {R C : Nat} (M : Mt) (h1 : 1 ≤ R) (h2 : R ≤ 12) (h3 : 1 ≤ C) (h4 : C ≤ 24) : TabOk (ofM R C M) R C := by
  refine ⟨by simp [ofM], h1, h2, h3, h4, fun r hr => ?_, fun r hr x hx => ?_⟩
  · obtain ⟨i, _, rfl⟩ := List.mem_map.1 hr; simp
  · obtain ⟨i, _, rfl⟩ := List.mem_map.1 hr
    obtain ⟨j, _, rfl⟩ := List.mem_map.1 hx
    exact GF.lt _
theorem gf_of (x : GF) : gf x.val = x := GF.ext (gf_val x.lt)
theorem matM_ofM {R C : Nat} (M : Mt) {i j : Nat} (hi : i < R) (hj : j < C) : matM (ofM R C M) i j = M i j := by
  unfold matM ofM
  rw [List.getD_eq_getElem?_getD, List.getD_eq_getElem?_getD, List.getElem?_map, List.getElem?_range hi]
  simp only [Option.map_some, Option.getD_some]
  rw [List.getElem?_map, List.getElem?_range hj]
  simp only [Option.map_some, Option.getD_some]
  exact gf_of _
def mulG (A B : Mt) (K : Nat) : Mt := fun i j => sumG (fun t => A i t * B t j) K
theorem zof_byte {w : World} {ao : Option Addr} {n : Nat} {T : List Hd} (k : TabIn w ao n T) : ∀ r ∈ zof T, ∀ x ∈ r, x < 256 := by
  intro r hr x hx
  obtain ⟨h, hh, rfl⟩ := List.mem_map.1 hr
  exact (k.rows h hh).byte x hx
theorem TabIn.ok {w : World} {ao : Option Addr} {n : Nat} {T : List Hd} (k : TabIn w ao n T) (hE : tabE (zof T) = 0) : ∃ C, TabOk (zof T) n C ∧ C = ((zof T).getD 0 []).length := by
  have h := tabE_zero hE (zof_byte k)
  rw [zof_len, k.len] at h
  exact ⟨_, h, rfl⟩
theorem u8s_gv (C : Nat) (f : Nat → GF) : u8s ((List.range C).map fun j => (f j).val) = rowF C (fun j => gv (f j)) := by
  unfold u8s rowF
  rw [List.map_map]
  rfl
/-- Row i of a table that is read. -/
theorem TabIn.row {w : World} {ao : Option Addr} {n C : Nat} {T : List Hd} (k : TabIn w ao n T) (ok : TabOk (zof T) n C) {i : Nat} (hi : i < n) :
    ∃ b o b' o' c', ao = some ⟨b, o, none⟩ ∧ w.cell? ⟨b, o + i, none⟩ = some (.slice (some ⟨b', o', none⟩) C c') ∧ C ≤ c' ∧ c' ≤ 9223372036854775807 ∧ Reads w (some ⟨b', o', none⟩) (rowF C fun j => gv (matM (zof T) i j)) ∧
      T[i]? = some ⟨some ⟨b', o', none⟩, c', (List.range C).map fun j => (matM (zof T) i j).val⟩ := by
  obtain ⟨h, b, o, hT, rfl, hc, hr⟩ := k.get hi
  have hz := ok.get hi
  rw [zof_get hT] at hz
  injection hz with hz
  have hl : h.Z.length = C := by rw [hz]; simp
  obtain ⟨A, c', Z⟩ := h
  simp only at hz hl hc
  have hR := hr.reads
  simp only at hR
  rw [hz, u8s_gv] at hR
  obtain ⟨b', o', hA, _⟩ := hR 0 _ (rowF_get _ (show 0 < C by have := ok.c1; omega))
  subst hA
  rw [hl] at hc
  have h1 := hr.cap
  have h2 := hr.max
  simp only at h1 h2
  refine ⟨b, o, b', o', c', rfl, hc, by omega, h2, hR, ?_⟩
  rw [hT, hz]
/-- A cell of a row that is read. -/
theorem row_cell {w : World} {b o C : Nat} {f : Nat → GF} (h : Reads w (some ⟨b, o, none⟩) (rowF C fun j => gv (f j))) {j : Nat} (hj : j < C) : w.cell? ⟨b, o + j, none⟩ = some (.int .u8 ((f j).val : Int)) := by
  obtain ⟨b2, o2, ha, hc⟩ := h j _ (rowF_get (fun j => gv (f j)) hj)
  cases ha
  exact hc
/-- Where a table lies, in each world that is above its own. -/
theorem TabIn.fix {w : World} {ao : Option Addr} {n C : Nat} {T : List Hd} (k : TabIn w ao n T) (ok : TabOk (zof T) n C) :
    ∃ b o, ao = some ⟨b, o, none⟩ ∧ ∀ i, i < n → ∃ b' o' c', C ≤ c' ∧ c' ≤ 9223372036854775807 ∧ ∀ X, Below w.heap.size w X → X.cell? ⟨b, o + i, none⟩ = some (.slice (some ⟨b', o', none⟩) C c') ∧ ∀ j, j < C → X.cell? ⟨b', o' + j, none⟩ = some (.int .u8 ((matM (zof T) i j).val : Int)) := by
  obtain ⟨b, o, _, _, _, rfl, _⟩ := k.row ok (i := 0) ok.r1
  refine ⟨b, o, rfl, fun i hi => ?_⟩
  obtain ⟨b2, o2, b', o', c', hao, h1, h2, h3, h4, _⟩ := k.row ok hi
  cases hao
  exact ⟨b', o', c', h2, h3, fun X hX => ⟨(hX.cell (World.block_lt_of_cell? _ _ h1)).trans h1, fun j hj => row_cell (h4.below hX) hj⟩⟩
end Go.Proofs.Ytgdcmebhopjfaaa
namespace Go.Proofs.Ytgdcmebhopjfaaa

/-- Points: places below 256, no two the same. -/
def PtsG (L : List (Nat × Nat)) : Prop := (∀ a ∈ L, a.1 < 256 ∧ a.2 < 256) ∧ (L.map Prod.fst).Nodup
def ptX (L : List (Nat × Nat)) (j : Nat) : GF := gf (L.getD j (0, 0)).1
def ptY (L : List (Nat × Nat)) (j : Nat) : GF := gf (L.getD j (0, 0)).2
/-- The row's value through some points. -/
def rowV (L : List (Nat × Nat)) (x : GF) : GF := lag (ptX L) (ptY L) L.length x
theorem ptX_ne {L : List (Nat × Nat)} (h : PtsG L) : ∀ i j, i < L.length → j < L.length → i ≠ j → ptX L i ≠ ptX L j := by
  intro i j hi hj hij he
  unfold ptX at he
  rw [List.getD_eq_getElem?_getD, List.getD_eq_getElem?_getD, List.getElem?_eq_getElem hi, List.getElem?_eq_getElem hj] at he
  simp only [Option.getD_some] at he
  have h1 := gf_inj (h.1 _ (List.getElem_mem hi)).1 (h.1 _ (List.getElem_mem hj)).1 he
  have h2 := h.2
  rw [List.nodup_iff_pairwise_ne, List.pairwise_map, List.pairwise_iff_getElem] at h2
  rcases Nat.lt_or_ge i j with h3 | h3
  · exact h2 i j hi hj h3 h1
  · exact h2 j i hj hi (by omega) h1.symm
theorem rowV_poly (L : List (Nat × Nat)) : PolyF L.length (rowV L) := lag_poly gfld _ _ _
theorem rowV_at {L : List (Nat × Nat)} (h : PtsG L) {a : Nat × Nat} (ha : a ∈ L) : rowV L (gf a.1) = gf a.2 := by
  obtain ⟨j, hj, he⟩ := List.mem_iff_getElem.1 ha
  have h1 := lag_at gfld (ptX L) (ptY L) hj (ptX_ne h)
  unfold ptX ptY at h1
  rw [List.getD_eq_getElem?_getD, List.getElem?_eq_getElem hj] at h1
  simp only [Option.getD_some] at h1
  rw [he] at h1
  exact h1
/-- A polynomial of so many numbers that fits some points is their row. -/
theorem rowV_uniq {L : List (Nat × Nat)} (h : PtsG L) {f : GF → GF} (hf : PolyF L.length f) (hL : ∀ a ∈ L, f (gf a.1) = gf a.2) (x : GF) : rowV L x = f x := by
  refine lag_uniq gfld hf (ptX L) (ptY L) (ptX_ne h) (fun j hj => ?_) x
  unfold ptX ptY
  rw [List.getD_eq_getElem?_getD, List.getElem?_eq_getElem hj]
  simp only [Option.getD_some]
  exact hL _ (List.getElem_mem hj)
def fits (L P : List (Nat × Nat)) : Prop := ∀ a ∈ P, rowV L (gf a.1) = gf a.2
theorem fits_swap {L M P : List (Nat × Nat)} (hM : PtsG M) (hl : M.length = L.length) (hMP : ∀ a ∈ M, a ∈ P) (h : fits L P) : (∀ x, rowV M x = rowV L x) ∧ fits M P := by
  have h1 : ∀ x, rowV M x = rowV L x := rowV_uniq hM (by rw [hl]; exact rowV_poly L) fun a ha => h a (hMP a ha)
  exact ⟨h1, fun a ha => by rw [h1]; exact h a ha⟩
end Go.Proofs.Ytgdcmebhopjfaaa
namespace Go.Proofs.Ytgdcmebhopjfaaa

/-- The places below n that have something, in order. -/
def pl (H : Nat → Bool) (n : Nat) : List Nat := (List.range n).filter H
theorem pl_succ (H : Nat → Bool) (n : Nat) : pl H (n + 1) = if H n then pl H n ++ [n] else pl H n := by
  unfold pl
  rw [List.range_succ, List.filter_append]
  by_cases h : H n
  · rw [if_pos h]; simp [h]
  · rw [if_neg h]; simp [h]
theorem pl_len (H : Nat → Bool) (n : Nat) : (pl H n).length ≤ n := by
  have := List.length_filter_le H (List.range n); unfold pl; simp at this ⊢; exact this
theorem mem_pl {H : Nat → Bool} {n j : Nat} : j ∈ pl H n ↔ j < n ∧ H j = true := by simp [pl]
theorem pl_nodup (H : Nat → Bool) (n : Nat) : (pl H n).Nodup := by rw [List.nodup_iff_pairwise_ne]; exact List.Pairwise.filter _ (List.nodup_iff_pairwise_ne.1 List.nodup_range)
/-- From behind: those of the last s places below n, the last one first. -/
def pd (H : Nat → Bool) (n s : Nat) : List Nat := ((List.range' (n - s) s).filter H).reverse
theorem pd_zero (H : Nat → Bool) (n : Nat) : pd H n 0 = [] := rfl
theorem pd_succ (H : Nat → Bool) {n s : Nat} (h : s < n) : pd H n (s + 1) = if H (n - 1 - s) then pd H n s ++ [n - 1 - s] else pd H n s := by
  unfold pd
  have e : List.range' (n - (s + 1)) (s + 1) = (n - 1 - s) :: List.range' (n - s) s := by
    rw [List.range'_succ, show n - (s + 1) = n - 1 - s by omega, show n - 1 - s + 1 = n - s by omega]
  rw [e, List.filter_cons]
  by_cases h : H (n - 1 - s)
  · rw [if_pos h, if_pos h, List.reverse_cons]
  · rw [if_neg h, if_neg h]
theorem pd_all (H : Nat → Bool) (n : Nat) : pd H n n = (pl H n).reverse := by
  unfold pd pl; rw [Nat.sub_self, List.range_eq_range']
theorem pd_len (H : Nat → Bool) (n s : Nat) : (pd H n s).length ≤ s := by
  have := List.length_filter_le H (List.range' (n - s) s); unfold pd; simp at this ⊢; exact this
theorem pd_mem {H : Nat → Bool} {n s j : Nat} (hs : s ≤ n) (h : j ∈ pd H n s) : j < n ∧ H j = true := by
  unfold pd at h
  rw [List.mem_reverse, List.mem_filter, List.mem_range'_1] at h
  exact ⟨by omega, h.2⟩
theorem nodup_rev {l : List Nat} (h : l.Nodup) : l.reverse.Nodup := by
  rw [List.nodup_iff_pairwise_ne] at h ⊢
  rw [List.pairwise_reverse]
  exact h.imp fun h => h.symm
/-- Points at the places of a list. -/
def atP (l : List Nat) (j : Nat) : GF := gf (l.getD j 0)
def byP (B : Nat → GF) (l : List Nat) (j : Nat) : GF := B (l.getD j 0)
theorem getD_mem {l : List Nat} {j : Nat} (h : j < l.length) : l.getD j 0 ∈ l := by
  rw [List.getD_eq_getElem?_getD, List.getElem?_eq_getElem h]; exact List.getElem_mem h
theorem atP_ne {l : List Nat} (hn : l.Nodup) (hl : ∀ a ∈ l, a < 256) : ∀ i j, i < l.length → j < l.length → i ≠ j → atP l i ≠ atP l j := by
  intro i j hi hj hij he
  unfold atP at he
  have h1 := gf_inj (hl _ (getD_mem hi)) (hl _ (getD_mem hj)) he
  rw [List.getD_eq_getElem?_getD, List.getD_eq_getElem?_getD, List.getElem?_eq_getElem hi, List.getElem?_eq_getElem hj] at h1
  simp only [Option.getD_some] at h1
  rw [List.nodup_iff_pairwise_ne, List.pairwise_iff_getElem] at hn
  rcases Nat.lt_or_ge i j with h3 | h3
  · exact hn i j hi hj h3 h1
  · exact hn j i hj hi (by omega) h1.symm
/-- The row through the first k of some places. -/
def rowP (B : Nat → GF) (l : List Nat) (k : Nat) (x : GF) : GF := lag (atP l) (byP B l) k x
theorem rowP_same {B : Nat → GF} {l m : List Nat} {k : Nat} (hk : k ≤ m.length) (hn : m.Nodup) (hm : ∀ a ∈ m, a < 256) (h : ∀ a ∈ m, rowP B l k (gf a) = B a) (x : GF) : rowP B m k x = rowP B l k x :=
  lag_uniq gfld (lag_poly gfld _ _ k) _ _ (fun i j hi hj hij => atP_ne hn hm i j (by omega) (by omega) hij) (fun j hj => h _ (getD_mem (by omega))) x
/-- All that are there fit. -/
def Fit (H : Nat → Bool) (B : Nat → GF) (l : List Nat) (k n : Nat) : Prop := ∀ a, a < n → H a = true → rowP B l k (gf a) = B a
theorem fit_iff {H : Nat → Bool} {B : Nat → GF} {k n : Nat} (hn : n ≤ 256) (hk : k ≤ (pl H n).length) :
    (Fit H B (pl H n) k n ↔ Fit H B (pd H n n) k n) ∧ (Fit H B (pl H n) k n → ∀ x, rowP B (pd H n n) k x = rowP B (pl H n) k x) := by
  have m1 : ∀ a ∈ pl H n, a < 256 := fun a ha => by have := (mem_pl.1 ha).1; omega
  have m2 : ∀ a ∈ pd H n n, a < 256 := fun a ha => by rw [pd_all, List.mem_reverse] at ha; exact m1 a ha
  have n2 : (pd H n n).Nodup := by rw [pd_all]; exact nodup_rev (pl_nodup H n)
  have k2 : k ≤ (pd H n n).length := by rw [pd_all, List.length_reverse]; exact hk
  have a1 : Fit H B (pl H n) k n → ∀ x, rowP B (pd H n n) k x = rowP B (pl H n) k x := fun h x =>
    rowP_same k2 n2 m2 (fun a ha => by rw [pd_all, List.mem_reverse, mem_pl] at ha; exact h a ha.1 ha.2) x
  have a2 : Fit H B (pd H n n) k n → ∀ x, rowP B (pl H n) k x = rowP B (pd H n n) k x := fun h x =>
    rowP_same hk (pl_nodup H n) m1 (fun a ha => by rw [mem_pl] at ha; exact h a ha.1 ha.2) x
  exact ⟨⟨fun h a ha hb => by rw [a1 h]; exact h a ha hb, fun h a ha hb => by rw [a2 h]; exact h a ha hb⟩, a1⟩
/-- The first k of a list grow with it till they are k. -/
theorem take_grow (l : List Nat) (k a : Nat) : (l ++ [a]).take k = if l.length < k then l.take k ++ [a] else l.take k := by
  split
  · rename_i h
    rw [List.take_of_length_le (by simp; omega), List.take_of_length_le (by omega)]
  · rename_i h
    rw [List.take_append_of_le_length (by omega)]
theorem getD_take {l : List Nat} {k j : Nat} (h : j < k) : (l.take k).getD j 0 = l.getD j 0 := by
  rw [List.getD_eq_getElem?_getD, List.getD_eq_getElem?_getD, List.getElem?_take_of_lt h]
end Go.Proofs.Ytgdcmebhopjfaaa
