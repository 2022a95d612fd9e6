/- TopRows: what the walk needs. -/
import Derived.Test.YtgdcmebhopjfaaaTrM16
import Derived.Test.YtgdcmebhopjfaaaTrM25
import Derived.Test.YtgdcmebhopjfaaaTrM28
import Derived.Test.YtgdcmebhopjfaaaMatrix7
import Derived.Test.YtgdcmebhopjfaaaTrM42
import Derived.Test.YtgdcmebhopjfaaaWelchC
namespace Go.Proofs.Ytgdcmebhopjfaaa
open Go.RowKit

theorem cellInfo : ElemRow Try.prog 81 (.agg #[.bool false, .int .u8 0]) 2 2 := elemRow_of (by kernel_rfl) rfl (by omega)
/-- A row of elements of two cells each, cell by cell. -/
theorem own_flat {w : World} {base e g n : Nat} {xs : List Value} {f : Nat → Value} (h : w.ownsRow base e 2 (.slice (some ⟨g, 0, none⟩) n n) n xs) (hn : n ≤ 1000) (hx : xs = rowF (n * 2) f) : Own w base e g (n * 2) (n * 2) f := by
  subst hx
  rcases h.2 with ⟨h0, _⟩ | ⟨g', cap', cur, hv, hb, hg, h1, h2, h3, h4⟩
  · cases h0
  injection hv with e1 e2 e3
  injection e1 with e1
  injection e1 with e1
  subst e1 e3
  exact ⟨by rw [rowF_length, Nat.mul_one], .inr ⟨g, n * 2, cur, rfl, hb, hg, Nat.le_refl _, by unfold maxLen; omega, by rw [Nat.mul_one]; exact h3, by rw [Nat.mul_one]; exact h4⟩⟩
/-- The cells when i of them were looked at. -/
def cellF (R : Nat → GF) (lost i t : Nat) : Value :=
  if t % 2 = 0 then .bool (decide (t / 2 < i ∧ t / 2 ≠ lost)) else if t / 2 < i ∧ t / 2 ≠ lost then gfV R (t / 2) else .int .u8 0
theorem cellF_zero (R : Nat → GF) (lost n : Nat) : (madeCells (Value.agg #[.bool false, .int .u8 0]).cells (n * 2)).toList = rowF (n * 2) (cellF R lost 0) := by
  have hz : (Value.agg #[Value.bool false, .int .u8 0]).cells = #[.bool false, .int .u8 0] := by rfl
  rw [hz]
  apply List.ext_getElem?
  intro j
  by_cases hj : j < n * 2
  · rw [rowF_get _ hj]
    unfold cellF
    have hm : j % 2 = 0 ∨ j % 2 = 1 := by omega
    rcases hm with hm | hm
    · simp [madeCells, hj, hm]
    · simp [madeCells, hj, hm]
  · rw [List.getElem?_eq_none (by simp [madeCells]; omega), List.getElem?_eq_none (by rw [rowF_length]; omega)]
theorem cellF_done (R : Nat → GF) (lost n : Nat) : rowF (n * 2) (cellF R lost n) = cellV (fun i => decide (i ≠ lost)) (fun i => if i ≠ lost then R i else 0) n := by
  apply List.ext_getElem?
  intro j
  by_cases hj : j < n * 2
  · obtain ⟨h1, h2⟩ := cellV_get (fun i => decide (i ≠ lost)) (fun i => if i ≠ lost then R i else 0) (n := n) (i := j / 2) (by omega)
    rw [rowF_get _ hj]
    unfold cellF
    by_cases h : j % 2 = 0
    · rw [if_pos h]
      have ej : j / 2 * 2 = j := by omega
      rw [ej] at h1
      rw [h1]
      congr 2
      apply decide_eq_decide.2
      exact ⟨fun h => h.2, fun h => ⟨by omega, h⟩⟩
    · rw [if_neg h]
      have ej : j / 2 * 2 + 1 = j := by omega
      rw [ej] at h2
      rw [h2]
      by_cases he : j / 2 ≠ lost
      · rw [if_pos ⟨by omega, he⟩]
        simp only [if_pos he]
        rfl
      · rw [if_neg (fun h => he h.2)]
        simp only [if_neg he]
        rfl
  · rw [List.getElem?_eq_none (by rw [rowF_length]; omega), List.getElem?_eq_none (by unfold cellV; rw [cells2_length, List.length_map, List.length_range]; omega)]
theorem cellF_skip (R : Nat → GF) (lost n : Nat) : ∀ t, cellF R lost (lost + 1) t = cellF R lost lost t := by
  intro t
  unfold cellF
  by_cases h : t % 2 = 0
  · rw [if_pos h, if_pos h]
    congr 1
    apply decide_eq_decide.2
    exact ⟨fun h => ⟨by omega, h.2⟩, fun h => ⟨by omega, h.2⟩⟩
  · rw [if_neg h, if_neg h]
    by_cases h2 : t / 2 < lost ∧ t / 2 ≠ lost
    · rw [if_pos h2, if_pos ⟨by omega, h2.2⟩]
    · rw [if_neg h2, if_neg (fun h3 => h2 ⟨by omega, h3.2⟩)]
theorem cellF_step (R : Nat → GF) {lost i : Nat} (hi : i ≠ lost) : ∀ t, (if t = i * 2 + 1 then gfV R i else if t = i * 2 then Value.bool true else cellF R lost i t) = cellF R lost (i + 1) t := by
  intro t
  unfold cellF
  by_cases h1 : t = i * 2 + 1
  · rw [if_pos h1, if_neg (by omega), if_pos (by constructor <;> omega), show t / 2 = i by omega]
  · rw [if_neg h1]
    by_cases h2 : t = i * 2
    · rw [if_pos h2, if_pos (by omega), decide_eq_true (by constructor <;> omega)]
    · rw [if_neg h2]
      by_cases h : t % 2 = 0
      · rw [if_pos h, if_pos h]
        congr 1
        apply decide_eq_decide.2
        exact ⟨fun h => ⟨by omega, h.2⟩, fun h => ⟨by omega, h.2⟩⟩
      · rw [if_neg h, if_neg h]
        by_cases h3 : t / 2 < i ∧ t / 2 ≠ lost
        · rw [if_pos h3, if_pos ⟨by omega, h3.2⟩]
        · rw [if_neg h3, if_neg (fun h4 => h3 ⟨by omega, h4.2⟩)]
end Go.Proofs.Ytgdcmebhopjfaaa
namespace Go.Proofs.Ytgdcmebhopjfaaa
open Go.RowKit

theorem u8s_range (n : Nat) : u8s (List.range n) = rowF n (fun j => .int .u8 (j : Int)) := rfl
theorem zof_van {K : Nat} : ∀ {N : Nat}, N ≤ 256 → ((List.range N).map fun x => (List.range K).map (gpow x)) = ofM N K vanG := by
  intro N hN
  unfold ofM
  refine List.map_congr_left fun i hi => List.map_congr_left fun j _ => ?_
  exact (gpow_pw (by have := List.mem_range.1 hi; omega) j).symm
theorem top_Powers (N K g cap : Nat) (X : World) (h : RowOk X ⟨some ⟨g, 0, none⟩, cap, List.range N⟩) (h1 : 1 ≤ N) (h12 : N ≤ 12) (k1 : 1 ≤ K) (k8 : K ≤ 12) :
    Calls Try.prog 47 #[.slice (some ⟨g, 0, none⟩) N cap, .int .i64 K] X fun e w' => ∃ ao ca T, e = .returned (.tuple #[.slice ao N ca, .int .i64 0]) ∧ TabIn w' ao N T ∧ zof T = ofM N K vanG ∧ Below X.heap.size X w' := by
  have hE : unE (List.range N) = 0 := by
    unfold unE
    rw [List.length_range, if_neg (by omega), if_pos List.nodup_range]
  have c := grid_Powers ⟨some ⟨g, 0, none⟩, cap, List.range N⟩ K X h hE k1 k8
  unfold Hd.v at c
  simp only [List.length_range] at c
  refine c.mono ?_
  rintro e w' ⟨ao, ca, T, h1, h2, h3, h4⟩
  exact ⟨ao, ca, T, h1, h2, by rw [h3, zof_van (by omega)], h4⟩
theorem van_ok {N K : Nat} (h1 : 1 ≤ N) (h12 : N ≤ 12) (k1 : 1 ≤ K) (k8 : K ≤ 12) : tabE (ofM N K vanG) = 0 ∧ TabOk (ofM N K vanG) N K ∧ SN N K (matM (ofM N K vanG)) vanG :=
  ⟨by
    obtain ⟨r, rfl⟩ : ∃ r, N = r + 1 := ⟨N - 1, by omega⟩
    have e : ofM (r + 1) K vanG = ((List.range K).map fun j => (vanG 0 j).val) :: ((List.range r).map fun i => (List.range K).map fun j => (vanG (i + 1) j).val) := by
      unfold ofM
      rw [List.range_succ_eq_map, List.map_cons, List.map_map]
      rfl
    rw [e]
    unfold tabE
    simp only
    rw [if_neg (by simp; omega), if_neg (by simp; omega), if_neg]
    intro h
    rw [List.any_eq_true] at h
    obtain ⟨s, hs, h5⟩ := h
    rw [List.mem_cons] at hs
    rcases hs with rfl | hs
    · simp at h5
    · obtain ⟨i, _, rfl⟩ := List.mem_map.1 hs
      simp at h5, ofM_ok vanG h1 h12 k1 (by omega), SN.of_eq fun i hi j hj => matM_ofM _ hi hj⟩
theorem top_Solve {f : GF → GF} (N K g cp : Nat) (T : List Hd) (ao : Option Addr) (ca : Nat) (X : World) (hf : PolyF K f) (hT : TabIn X ao N T) (hz : zof T = ofM N K vanG) (hb : RowOk X ⟨some ⟨g, 0, none⟩, cp, (List.range N).map fun i => (f (gf i)).val⟩) (h1 : 1 ≤ N) (h12 : N ≤ 12) (k1 : 1 ≤ K) (k8 : K ≤ 12) :
    Calls Try.prog 44 #[.slice ao N ca, .slice (some ⟨g, 0, none⟩) N cp] X fun e w' => ∃ g2 c2, e = .returned (.tuple #[.slice (some ⟨g2, 0, none⟩) K c2, .int .i64 0]) ∧ Below X.heap.size X w' := by
  obtain ⟨v1, v2, v3⟩ := van_ok h1 h12 k1 k8
  have c := matrix_Solve T ⟨some ⟨g, 0, none⟩, cp, (List.range N).map fun i => (f (gf i)).val⟩ (fun i => f (gf i)) N K ao ca X hT (by rw [hz]; exact v1) (by rw [hz]; exact v2) k8 hb rfl
  unfold Hd.v at c
  simp only [List.length_map, List.length_range] at c
  refine c.mono ?_
  rintro e w' ⟨h2, _, h4⟩
  obtain ⟨g2, c2, x, h5, _⟩ := h2 (row_dep hf (fun i hi j hj => by unfold wideG besG; rw [if_pos hj, hz]; exact matM_ofM _ hi hj) (fun i hi => by unfold wideG besG; rw [if_neg (by omega)]))
  exact ⟨g2, c2, h5, h4⟩
theorem top_Rank (N K : Nat) (T : List Hd) (ao : Option Addr) (ca : Nat) (X : World) (hT : TabIn X ao N T) (hz : zof T = ofM N K vanG) (h12 : N ≤ 12) (k1 : 1 ≤ K) (hKN : K ≤ N) :
    Calls Try.prog 35 #[.slice ao N ca] X fun e w' => e = .returned (.tuple #[.int .i64 K, .int .i64 0]) ∧ Below X.heap.size X w' := by
  obtain ⟨v1, v2, v3⟩ := van_ok (N := N) (K := K) (by omega) h12 k1 (by omega)
  have c := matrix_Rank T N K ao ca X hT (by rw [hz]; exact v1) (by rw [hz]; exact v2)
  rw [hz, rkG_congr v3, van_rank (by omega) hKN] at c
  exact c
theorem top_Mend {f : GF → GF} (N K l : Nat) (ao : Option Addr) (cap : Nat) (X : World) (hf : PolyF K f) (h12 : N ≤ 12) (k1 : 1 ≤ K) (hKN : K + 2 ≤ N) (hR : Reads X ao (cellV (fun i => decide (i ≠ l)) (fun i => if i ≠ l then f (gf i) else 0) N)) :
    Calls Try.prog 56 #[.slice ao N cap, .int .i64 K] X fun e w' => ∃ v, e = .returned (.tuple #[v, .int .i64 0]) ∧ w'.ownsRow X.heap.size 5 1 v N (rowF N (gfV fun j => f (gf j))) ∧ Below X.heap.size X w' := by
  have hl := pl_but N l
  have hrow : ∀ x, rowP (fun i => if i ≠ l then f (gf i) else 0) (pl (fun i => decide (i ≠ l)) N) K x = f x := rowP_of hf (by omega) (pl_nodup _ _) (fun b hb => by have := (mem_pl.1 hb).1; omega) (fun b hb => by
    have h := of_decide_eq_true (mem_pl.1 hb).2
    simp only [if_pos h])
  refine (reed_Mend _ _ N K ao cap X (by omega) k1 (by omega) hR).mono ?_
  rintro e w' ⟨hb, h | h | h⟩
  · omega
  · exact absurd (fun b hb2 hh => by rw [hrow]; have h := of_decide_eq_true hh; simp only [if_pos h]) h.2.1
  · obtain ⟨_, _, v, h1, h2⟩ := h
    refine ⟨v, h1, ?_, hb⟩
    rw [rowF_congr (fun j hj => show gfV _ j = gfV (fun j => f (gf j)) j by unfold gfV; simp only [hrow])] at h2
    exact h2
theorem top_Welch {f : GF → GF} (N K a y : Nat) (ao : Option Addr) (cap : Nat) (X : World) (hf : PolyF K f) (h12 : N ≤ 12) (k1 : 1 ≤ K) (k8 : K ≤ 8) (hKN : K + 2 ≤ N) (ha : a < N) (hy : y < 256) (hR : Reads X ao (rowF N (gfV fun i => if i = a then f (gf i) + gf y else f (gf i)))) :
    Calls Try.prog 57 #[.slice ao N cap, .int .i64 K] X fun e w' => ∃ v, e = .returned (.tuple #[v, .int .i64 (if y = 0 then 0 else 1), .int .i64 0]) ∧ w'.ownsRow X.heap.size 5 1 v N (rowF N (gfV fun j => f (gf j))) ∧ Below X.heap.size X w' := by
  have hB : ∀ i, i ≠ a → f (gf i) = (fun i => if i = a then f (gf i) + gf y else f (gf i)) i := fun i hi => by simp only [if_neg hi]
  refine (welch_Mend _ N K ao cap X h12 k1 (by omega) hR).mono ?_
  rintro e w' ⟨hb, ⟨h, _⟩ | ⟨s, hs, v, h1, h2⟩⟩
  · exact absurd h (welch_found hf hB k8 hKN h12 (by omega))
  · obtain ⟨r1, r2⟩ := welch_row hf hB hKN h12 hs
    refine ⟨v, ?_, ?_, hb⟩
    · simp only [↓reduceIte] at r2
      have hif : (if a < N ∧ (f (gf a)).val ≠ (f (gf a) + gf y).val then 1 else 0 : Nat) = if y = 0 then 0 else 1 := by
        by_cases h0 : y = 0
        · subst h0
          rw [if_pos rfl, if_neg]
          rintro ⟨_, h⟩
          apply h
          rw [show gf 0 = (0 : GF) from rfl, g_add_zero]
        · rw [if_neg h0, if_pos]
          refine ⟨ha, fun h => h0 ?_⟩
          have h3 : f (gf a) = f (gf a) + gf y := GF.ext h
          have h4 : f (gf a) + f (gf a) = f (gf a) + (f (gf a) + gf y) := by rw [← h3]
          rw [g_cancel, g_self] at h4
          have h5 := congrArg GF.val h4
          rw [gf_val hy] at h5
          exact h5.symm
      rw [h1, r2, hif]
      by_cases h0 : y = 0
      · rw [if_pos h0, if_pos h0]; rfl
      · rw [if_neg h0, if_neg h0]; rfl
    · rw [rowF_congr (fun j hj => show gfV _ j = gfV (fun j => f (gf j)) j by unfold gfV; simp only [r1 j hj])] at h2
      exact h2
end Go.Proofs.Ytgdcmebhopjfaaa
